import Derived.Test.YtcmimkacafphkaaGreatDoorWiAs
import Derived.Test.YtcmimkacafphkaaGreatDoorFun2
import Derived.Test.YtcmimkacafphkaaGreatDoorAmOpenF
import Derived.Test.YtcmimkacafphkaaGreatDoorAmOwnF
set_option linter.all false
/- wire: errors.As on the abstract machine; fault -/
set_option maxHeartbeats 8000000
namespace Go.AM.Cap
open Go.AM Go.Proofs Go.Proofs.YtcmimkacafphkaaGreatDoor

theorem grow_rel {N : Nat} {w₀ : World} {ρ : Ren} {H : Heap} {w : World} (h : Rel N w₀ ρ H w) (o : Obj) : Rel N w₀ ρ H (w.alloc o) := by
  have hold : ∀ k, k < w.heap.size → (w.alloc o).heap[k]? = w.heap[k]? := fun k hk => by
    show (w.heap.push o)[k]? = _
    rw [Array.getElem?_push, if_neg (by omega)]
  refine ⟨h.below.trans ⟨rfl, rfl, rfl, by show w.heap.size ≤ (w.heap.push o).size; simp, fun k hk => hold k (Nat.lt_of_lt_of_le hk h.big)⟩, ?_, h.dom, h.base, fun b x hx => ?_, h.inj⟩
  · show N ≤ (w.heap.push o).size
    have := h.big; simp; omega
  · obtain ⟨L, hL, hr⟩ := h.blk b x hx
    exact ⟨L, hL, hr.mono (Ren.le.refl _) (hold _ (h.lt hx hL))⟩
theorem grow_ext {ρ ρ' : Ren} {H H' : Heap} {w w' : World} (h : Ext ρ H w ρ' H' w') (o : Obj) : Ext ρ H w ρ' H' (w'.alloc o) :=
  ⟨h.le, h.same, h.next, ⟨by have := h.apart.1; show w.heap.size ≤ (w'.heap.push o).size; simp; omega, fun c hc hn => by
    have := h.apart.1
    show (w'.heap.push o)[c]? = _
    rw [Array.getElem?_push, if_neg (by omega)]; exact h.apart.2 c hc hn⟩, h.old⟩
/-- the cell of errors.errorType -/
def TOK : Nat := 189 * 1099511627776 + 8 * 1048576 + 92
theorem tok_eq : tokV TOK = .iface 189 (.agg #[.pointer (some ⟨8, 92, none⟩)]) := by
  unfold tokV TOK
  rfl
open Classical in
/-- errors.As at a target of type *broken -/
noncomputable def asF (args : List V) : M V := fun H => match args with
  | [.nilIface, _] => some (.bool false, H)
  | [.iface te (.agg cs), .iface tp p] => if te = 147 ∧ tp = 149 ∧ H.cell 2 0 = some (.chan (some TOK)) ∧ ∃ a b : Int, cs = #[i64 a, i64 b] then bnd (stn 2 p (.agg cs)) (fun _ => ret (.bool true)) H else none
  | _ => none

theorem as_known : Known Tryz.prog fid_errors_As asF := by
  refine ⟨by kernel_rfl, ?_⟩
  intro N w₀ ρ H w args args' r H' hG hR ha hl
  have hgs : Tryz.prog.globals.size = 8 := by kernel_rfl
  unfold asF at hl
  split at hl
  · cases hl
    obtain ⟨t', rfl⟩ : ∃ t', args' = [.nilIface, t'] := by
      cases ha with
      | cons h1 h2 => cases h2 with
        | cons h2 h3 => cases h3; cases h1; exact ⟨_, rfl⟩
    refine (AsWalk.as_nil t' w).mono fun e w' ⟨he, hw⟩ => ?_
    subst hw
    exact ⟨_, he, ρ, .bool _, hR, .refl _ _ _⟩
  · rename_i te cs tp p
    split at hl
    · rename_i hc
      obtain ⟨rfl, rfl, hcell, a, b, rfl⟩ := hc
      obtain ⟨v, H1, h1, h2⟩ := bnd_inv hl
      simp only [ret] at h2; cases h2
      obtain ⟨p', rfl, hp⟩ : ∃ p', args' = [.iface 147 (.agg #[i64 a, i64 b]), .iface 149 p'] ∧ VRel ρ p p' := by
        cases ha with
        | cons q1 q2 => cases q2 with
          | cons q2 q3 =>
            cases q3
            cases q1 with
            | iface t v v' hv =>
              cases q2 with
              | iface t2 w1 w2 hw =>
                refine ⟨_, ?_, hw⟩
                obtain ⟨x', rfl, hx⟩ := hv.agg_inv
                obtain ⟨x'⟩ := x'
                cases hx with
                | cons r1 r2 => cases r2 with
                  | cons r2 r3 =>
                    cases r3
                    have := r1.int_inv; have := r2.int_inv
                    subst_vars; rfl
      -- the target is a pointer
      have hpp : ∃ bb o, p = .pointer (some ⟨bb, o, none⟩) := by
        unfold stn at h1
        split at h1
        · exact ⟨_, _, rfl⟩
        · cases h1
      obtain ⟨bb, o, rfl⟩ := hpp
      obtain ⟨L, hL, rfl⟩ := hp.ptr_inv
      -- the variable's cell
      obtain ⟨s0, h0⟩ := hR.base 2 (by omega)
      have hca : cellsAt H 2 0 1 = some [.chan (some TOK)] := by
        unfold Heap.cell at hcell
        split at hcell
        · rename_i rw_ cs' hg
          unfold cellsAt
          rw [hg]
          have hlt : 0 < cs'.length := by
            rcases Nat.eq_zero_or_pos cs'.length with q | q
            · rw [List.eq_nil_of_length_eq_zero q] at hcell; cases hcell
            · exact q
          simp only
          rw [if_pos (by omega)]
          congr 1
          match cs', hcell with
          | c :: cs', hcell => simp at hcell; rw [hcell]; rfl
        · cases hcell
      obtain ⟨_, l', hrel, hat⟩ := hR.cellsAt hca h0
      have hg0 : w.cell? ⟨2, 0, none⟩ = some (.iface 189 (.agg #[.pointer (some ⟨8, 92, none⟩)])) := by
        cases hrel with
        | cons r1 r2 =>
          cases r2
          have e := hat 0 _ rfl
          rw [e]
          cases r1
          rw [tok_eq]
      have hRg : Rel N w₀ ρ H (AsWalk.grown w ⟨L.blk, L.off + o, none⟩ (i64 a) (i64 b)) := grow_rel (grow_rel (grow_rel (grow_rel hR _) _) _) _
      have hEg : Ext ρ H w ρ H (AsWalk.grown w ⟨L.blk, L.off + o, none⟩ (i64 a) (i64 b)) := grow_ext (grow_ext (grow_ext (grow_ext (.refl _ _ _) _) _) _) _
      have htk : tk Tryz.prog 147 = some (.agg 2) := by kernel_rfl
      obtain ⟨rfl, w', hst, hR', hE'⟩ := stn_sound (P := Tryz.prog) hRg htk h1 hp (.agg' (.cons (.int _ _) (.cons (.int _ _) .nil)) : VRel ρ (.agg #[i64 a, i64 b]) (.agg #[i64 a, i64 b]))
      have hst' : (storeVar 147 ⟨L.blk, L.off + o, none⟩ (.agg #[i64 a, i64 b])).run Tryz.prog (AsWalk.grown w ⟨L.blk, L.off + o, none⟩ (i64 a) (i64 b)) = .ok () w' := by
        simpa [Instr.storeAt, Instr.sureAddr] using hst
      have hld : (loadVar 147 ⟨w.heap.size + 1 + 1 + 1, 0, none⟩).run Tryz.prog (AsWalk.grown w ⟨L.blk, L.off + o, none⟩ (i64 a) (i64 b)) = .ok (.agg #[i64 a, i64 b]) (AsWalk.grown w ⟨L.blk, L.off + o, none⟩ (i64 a) (i64 b)) := by
        have hcl : (AsWalk.grown w ⟨L.blk, L.off + o, none⟩ (i64 a) (i64 b)).heap[w.heap.size + 1 + 1 + 1]? = some (.cells #[i64 a, i64 b] 147 (0, 0)) := by
          have key : ∀ (W : World) (o : Obj) (n : Nat), W.heap.size = n → (W.alloc o).heap[n]? = some o := fun W o n hn => by
            subst hn
            show (W.heap.push o)[W.heap.size]? = some o
            simp
          exact key _ _ _ (by simp only [World.alloc, Array.size_push])
        have hrun := run_loadCells_at (P := Tryz.prog) (w := AsWalk.grown w ⟨L.blk, L.off + o, none⟩ (i64 a) (i64 b)) (b := w.heap.size + 1 + 1 + 1) (o := 0) (l := [i64 a, i64 b]) (fun j v hj => by
          unfold World.cell?
          simp only [hcl]
          simpa using hj)
        simp only [List.length_cons, List.length_nil] at hrun
        simp [loadVar, (tk_agg htk).1, (tk_agg htk).2, hrun]
      refine (AsWalk.as_hit ⟨L.blk, L.off + o, none⟩ (i64 a) (i64 b) w w' hg0 hld hst').mono fun e w2 ⟨he, hw⟩ => ?_
      subst hw
      exact ⟨_, he, ρ, .bool _, hR', hEg.trans hE'⟩
    · cases hl
  · cases hl
end Go.AM.Cap
