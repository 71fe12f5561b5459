import Derived.Test.YtcmimkacafphkaaGreatDoorWiAs
import Derived.Test.YtcmimkacafphkaaGreatDoorFun2
import Derived.Test.YtcmimkacafphkaaGreatDoorAmOpenF
import Derived.Test.YtcmimkacafphkaaGreatDoorAmHeap
set_option linter.all false
/- wire: errors.As on the abstract machine; fault -/
set_option maxHeartbeats 8000000
namespace Go.AM.Cap
open Go.AM Go.Proofs Go.Proofs.YtcmimkacafphkaaGreatDoor
theorem z7w {N : Nat} {w₀ : World} {ρ : Ren} {H : Heap} {w : World} (h : Rel N w₀ ρ H w) (o : Obj) : Rel N w₀ ρ H (w.alloc o) := by
  have hold : ∀ k, k < w.heap.size → (w.alloc o).heap[k]? = w.heap[k]? := fun k hk => by
    show (w.heap.push o)[k]? = _
    rw [Array.getElem?_push, if_neg (by omega)]
  refine ⟨h.below.trans ⟨rfl, rfl, rfl, by show w.heap.size ≤ (w.heap.push o).size; simp, fun k hk => hold k (Nat.lt_of_lt_of_le hk h.big)⟩, ?_, h.dom, h.base, fun b x hx => ?_, h.inj⟩
  · show N ≤ (w.heap.push o).size
    have := h.big; simp; omega
  · obtain ⟨L, hL, hr⟩ := h.blk b x hx
    exact ⟨L, hL, hr.mono (Ren.le.refl _) (hold _ (h.lt hx hL))⟩
theorem z7x {ρ ρ' : Ren} {H H' : Heap} {w w' : World} (h : Ext ρ H w ρ' H' w') (o : Obj) : Ext ρ H w ρ' H' (w'.alloc o) :=
  ⟨h.le, h.same, h.next, ⟨by have := h.apart.1; show w.heap.size ≤ (w'.heap.push o).size; simp; omega, fun c hc hn => by
    have := h.apart.1
    show (w'.heap.push o)[c]? = _
    rw [Array.getElem?_push, if_neg (by omega)]; exact h.apart.2 c hc hn⟩, h.old⟩
def TOK : Nat := 189 * 1099511627776 + 8 * 1048576 + 92
theorem zbxm : tokV TOK = .iface 189 (.agg #[.pointer (some ⟨8, 92, none⟩)]) := by
  unfold tokV TOK
  rfl
open Classical in
noncomputable def asF (args : List V) : M V := fun H => match args with
  | [.nilIface, _] => some (.bool false, H)
  | [.iface te (.agg cs), .iface tp p] => if te = 147 ∧ tp = 149 ∧ H.cell 2 0 = some (.chan (some TOK)) ∧ ∃ a b : Int, cs = #[i64 a, i64 b] then zb (stn 2 p (.agg cs)) (fun _ => ret (.bool true)) H else none
  | _ => none
theorem as_known : zk Tryz.prog ziv asF := by
  refine ⟨by kernel_rfl, ?_⟩
  intro N w₀ ρ H w args args' r H' hG hR ha hl
  have hgs : Tryz.prog.globals.size = 8 := by kernel_rfl
  unfold asF at hl
  split at hl
  · cases hl
    obtain ⟨t', rfl⟩ : ∃ t', args' = [.nilIface, t'] := by
      cases ha with
      | cons h1 h2 => cases h2 with
        | cons h2 h3 => cases h3; cases h1; exact ⟨_, rfl⟩
    refine (AsWalk.as_nil t' w).mono fun e w' ⟨he, hw⟩ => ?_
    subst hw
    exact ⟨_, he, ρ, .bool _, hR, .refl _ _ _⟩
  · rename_i te cs tp p
    split at hl
    · rename_i hc
      obtain ⟨rfl, rfl, hcell, a, b, rfl⟩ := hc
      obtain ⟨v, H1, h1, h2⟩ := zyh hl
      simp only [ret] at h2; cases h2
      obtain ⟨p', rfl, hp⟩ : ∃ p', args' = [.iface 147 (.agg #[i64 a, i64 b]), .iface 149 p'] ∧ VRel ρ p p' := by
        cases ha with
        | cons q1 q2 => cases q2 with
          | cons q2 q3 =>
            cases q3
            cases q1 with
            | iface t v v' hv =>
              cases q2 with
              | iface t2 w1 w2 hw =>
                refine ⟨_, ?_, hw⟩
                obtain ⟨x', rfl, hx⟩ := hv.agg_inv
                obtain ⟨x'⟩ := x'
                cases hx with
                | cons r1 r2 => cases r2 with
                  | cons r2 r3 =>
                    cases r3
                    have := r1.int_inv; have := r2.int_inv
                    subst_vars; rfl
      have hpp : ∃ bb o, p = .pointer (some ⟨bb, o, none⟩) := by
        unfold stn at h1
        split at h1
        · exact ⟨_, _, rfl⟩
        · cases h1
      obtain ⟨bb, o, rfl⟩ := hpp
      obtain ⟨L, hL, rfl⟩ := hp.ptr_inv
      obtain ⟨s0, h0⟩ := hR.base 2 (by omega)
      have hca : cellsAt H 2 0 1 = some [.chan (some TOK)] := by
        unfold Heap.cell at hcell
        split at hcell
        · rename_i rw_ cs' hg
          unfold cellsAt
          rw [hg]
          have hlt : 0 < cs'.length := by
            rcases Nat.eq_zero_or_pos cs'.length with q | q
            · rw [List.eq_nil_of_length_eq_zero q] at hcell; cases hcell
            · exact q
          simp only
          rw [if_pos (by omega)]
          congr 1
          match cs', hcell with
          | c :: cs', hcell => simp at hcell; rw [hcell]; rfl
        · cases hcell
      obtain ⟨_, l', hrel, hat⟩ := hR.cellsAt hca h0
      have hg0 : w.cell? ⟨2, 0, none⟩ = some (.iface 189 (.agg #[.pointer (some ⟨8, 92, none⟩)])) := by
        cases hrel with
        | cons r1 r2 =>
          cases r2
          have e := hat 0 _ rfl
          rw [e]
          cases r1
          rw [zbxm]
      have hRg : Rel N w₀ ρ H (AsWalk.grown w ⟨L.blk, L.off + o, none⟩ (i64 a) (i64 b)) := z7w (z7w (z7w (z7w hR _) _) _) _
      have hEg : Ext ρ H w ρ H (AsWalk.grown w ⟨L.blk, L.off + o, none⟩ (i64 a) (i64 b)) := z7x (z7x (z7x (z7x (.refl _ _ _) _) _) _) _
      have htk : tk Tryz.prog 147 = some (.agg 2) := by kernel_rfl
      obtain ⟨rfl, w', hst, hR', hE'⟩ := zbf6 (P := Tryz.prog) hRg htk h1 hp (.agg' (.cons (.int _ _) (.cons (.int _ _) .nil)) : VRel ρ (.agg #[i64 a, i64 b]) (.agg #[i64 a, i64 b]))
      have hst' : (storeVar 147 ⟨L.blk, L.off + o, none⟩ (.agg #[i64 a, i64 b])).run Tryz.prog (AsWalk.grown w ⟨L.blk, L.off + o, none⟩ (i64 a) (i64 b)) = .ok () w' := by
        simpa [Instr.storeAt, Instr.sureAddr] using hst
      have hld : (loadVar 147 ⟨w.heap.size + 1 + 1 + 1, 0, none⟩).run Tryz.prog (AsWalk.grown w ⟨L.blk, L.off + o, none⟩ (i64 a) (i64 b)) = .ok (.agg #[i64 a, i64 b]) (AsWalk.grown w ⟨L.blk, L.off + o, none⟩ (i64 a) (i64 b)) := by
        have hcl : (AsWalk.grown w ⟨L.blk, L.off + o, none⟩ (i64 a) (i64 b)).heap[w.heap.size + 1 + 1 + 1]? = some (.cells #[i64 a, i64 b] 147 (0, 0)) := by
          have key : ∀ (W : World) (o : Obj) (n : Nat), W.heap.size = n → (W.alloc o).heap[n]? = some o := fun W o n hn => by
            subst hn
            show (W.heap.push o)[W.heap.size]? = some o
            simp
          exact key _ _ _ (by simp only [World.alloc, Array.size_push])
        have hrun := zhq (P := Tryz.prog) (w := AsWalk.grown w ⟨L.blk, L.off + o, none⟩ (i64 a) (i64 b)) (b := w.heap.size + 1 + 1 + 1) (o := 0) (l := [i64 a, i64 b]) (fun j v hj => by
          unfold World.cell?
          simp only [hcl]
          simpa using hj)
        simp only [List.length_cons, List.length_nil] at hrun
        simp [loadVar, (z0c htk).1, (z0c htk).2, hrun]
      refine (AsWalk.as_hit ⟨L.blk, L.off + o, none⟩ (i64 a) (i64 b) w w' hg0 hld hst').mono fun e w2 ⟨he, hw⟩ => ?_
      subst hw
      exact ⟨_, he, ρ, .bool _, hR', hEg.trans hE'⟩
    · cases hl
  · cases hl
end Go.AM.Cap

/- wire: numbers, unsigned, bad, fault -/
set_option maxHeartbeats 8000000
namespace Go.AM.Cap
open Go.AM Go.Proofs
theorem zbtb (x : BitVec 64) (k : IntKind) (n : Nat) : zj .shl (W x) (.int k n) = some (W (x <<< n)) := by
  have h := zbuq x.toNat n 64
  have h0 : ¬ ((n : Int) < 0) := by omega
  simp only [zj, zz8, IntKind.bits, h0, if_false, zbcb, Int.toNat_natCast, h]
  show some (Value.int .u64 _) = some (Value.int .u64 ((x <<< n).toNat : Int))
  rw [BitVec.toNat_shiftLeft]
theorem zbtc (x : BitVec 64) : zj .shl (W x) (.int .u64 8) = some (W (x <<< 8)) := zbtb x .u64 8
theorem zbxn (x y : BitVec 64) : zj .or (W x) (W y) = some (W (x ||| y)) := by
  simp [zj, z3c, zbfy, zbcb, zqy, IntKind.bits]; rfl
theorem zboq (x y : BitVec 64) : zj .add (W x) (W y) = some (W (x + y)) := by
  simp [zj, z3c, zbcb, ← Int.natCast_add, zqy]
theorem zbtd (x : BitVec 8) : cvi .u64 (B x) = some (W (x.setWidth 64)) := by
  simp [cvi, zbcb, zqy]
theorem zbgs (n : Nat) (h : n < 18446744073709551616) : IntKind.i64.wrap (n : Int) = if 2 * n < 18446744073709551616 then (n : Int) else (n : Int) - 18446744073709551616 := by
  rw [IntKind.wrap_i64]
  split <;> omega
theorem z27 (x : BitVec 64) : cvi .i64 (W x) = some (i64 x.toInt) := by
  have h : IntKind.i64.wrap ((x.toNat : Nat) : Int) = x.toInt := by
    rw [zbgs _ x.isLt]
    rfl
  show some (Value.int .i64 (IntKind.i64.wrap ((x.toNat : Nat) : Int))) = _
  rw [h]
theorem zbvc (n : Int) : cvi .u64 (i64 n) = some (W (BitVec.ofInt 64 n)) := by
  simp only [cvi, zbcb]
def zgs (l : List (BitVec 8)) : BitVec 64 := l.foldl (fun n b => n <<< 8 ||| b.setWidth 64) 0
theorem z2p (s : ByteArray) (hs : s.size ≤ 1000000) : ze6 [.string s] = ret (W (zgs (bv s))) := zwc fun H => by
  show wp (zn6 (.string s)) _ H
  (try simp (maxSteps := 1000000) (disch := first | omega | (simp only [Z3]; omega) | (simp; done) | assumption | decide | (refine not_not_intro ?_; assumption)) only [Z1, Z2, splice, zn6])
  refine zb9 (Inv := fun k vs H' => ∃ i : Nat, k = s.size - i ∧ i ≤ s.size ∧ vs = [.string s, W (zgs ((bv s).take i)), i64 s.size, i64 i] ∧ H' = H) (n := s.size) (by unfold zcb; omega)
    ⟨0, by omega, by omega, rfl, rfl⟩ ?_
  rintro k vs H' ⟨i, hk, hi, rfl, he⟩
  rw [he]; clear he H'
  have hb := zbl s
  by_cases hlt : i < s.size
  · have ix := zgj (s := s) (k := .i64) (i := i) (by omega) (by omega)
    rw [Int.toNat_natCast] at ix
    (try simp (maxSteps := 1000000) (disch := first | omega | (simp only [Z3]; omega) | (simp; done) | assumption | decide | (refine not_not_intro ?_; assumption)) only [Z1, Z2, splice, zq2, zxa, zbtc, ix, zbtd, zbxn, zw9])
    refine ⟨s.size - (i + 1), by omega, i + 1, rfl, by omega, ?_⟩
    have e : zgs ((bv s).take (i + 1)) = zgs ((bv s).take i) <<< 8 ||| ((bv s).getD i 0).setWidth 64 := by
      unfold zgs
      rw [List.take_succ, List.getElem?_eq_getElem (by omega), List.getD_eq_getElem?_getD, List.getElem?_eq_getElem (by omega), List.foldl_append]
      rfl
    rw [e]
    exact ⟨by push_cast; rfl, trivial⟩
  · have : i = s.size := by omega
    subst this
    rw [← hb, List.take_length]
    (try simp (maxSteps := 1000000) (disch := first | omega | (simp only [Z3]; omega) | (simp; done) | assumption | decide | (refine not_not_intro ?_; assumption)) only [Z1, Z2, splice, zq2, zxb])
def errV : Option (Int × Int) → V
  | none => .nilIface
  | some (a, c) => .iface 147 (.agg [i64 a, i64 c].toArray)
theorem z5v (a c : Int) : zg7 [i64 a, i64 c] = ret (errV (some (a, c))) := zwc fun H => by
  show wp (zyp (i64 a) (i64 c)) _ H
  (try simp (maxSteps := 1000000) (disch := first | omega | (simp only [Z3]; omega) | (simp; done) | assumption | decide | (refine not_not_intro ?_; assumption)) only [Z1, Z2, splice, zyp])
  exact ⟨rfl, trivial⟩
def Tok (H : Heap) : Prop := H.cell 2 0 = some (.chan (some TOK))
theorem Tok.keep {S : List Nat} {H H' : Heap} (h : Tok H) (hk : Keeps S H H') (hs : 2 ∉ S) : Tok H' := by
  unfold Tok Heap.cell at *
  have : H.get 2 ≠ none := fun e => by rw [e] at h; cases h
  have hlt : 2 < H.next := by
    cases hg : H.get 2 with
    | none => exact absurd hg this
    | some x => exact Heap.get_lt hg
  rw [hk.same 2 hlt hs]; exact h
theorem Tok.keep0 {H H' : Heap} (h : Tok H) (hk : Keeps [] H H') : Tok H' := h.keep hk (by simp)
theorem Tok.lt {H : Heap} (h : Tok H) : 2 < H.next := by
  unfold Tok Heap.cell at h
  cases hg : H.get 2 with
  | none => rw [hg] at h; cases h
  | some x => exact Heap.get_lt hg
def zoc : Option (Int × Int) → Int × Int
  | none => (0, 0)
  | some x => x
theorem zbte {H : Heap} (hT : Tok H) (e : Option (Int × Int)) (Q : V → Heap → Prop) (hQ : ∀ H', Keeps [] H H' → Q (.agg [i64 (zoc e).1, i64 (zoc e).2].toArray) H') : wp (zmk asF [errV e]) Q H := by
  show wp (zte asF (errV e)) Q H
  (try simp (maxSteps := 1000000) (disch := first | omega | (simp only [Z3]; omega) | (simp; done) | assumption | decide | (refine not_not_intro ?_; assumption)) only [Z1, Z2, splice, zte])
  have k1 : Keeps [] H ((H.push (some (.cells true [i64 0, i64 0]))).push (some (.cells true [i64 0, i64 0]))) := zq (Keeps.push _ _ _)
  have g1 : ((H.push (some (.cells true [i64 0, i64 0]))).push (some (.cells true [i64 0, i64 0]))).get H.next = some (.cells true [i64 0, i64 0]) := by
    rw [Heap.get_push_lt (by simp)]; exact Heap.get_push_self _ _
  have g2 : ((H.push (some (.cells true [i64 0, i64 0]))).push (some (.cells true [i64 0, i64 0]))).get (H.next + 1) = some (.cells true [i64 0, i64 0]) := Heap.get_push_eq (by simp)
  have hT1 := hT.keep0 k1
  have n1 : ((H.push (some (.cells true [i64 0, i64 0]))).push (some (.cells true [i64 0, i64 0]))).next = H.next + 2 := by simp
  generalize ((H.push (some (.cells true [i64 0, i64 0]))).push (some (.cells true [i64 0, i64 0]))) = H1 at *
  cases e with
  | none =>
    refine ⟨.bool false, H1, rfl, ?_⟩
    (try simp (maxSteps := 1000000) (disch := first | omega | (simp only [Z3]; omega) | (simp; done) | assumption | decide | (refine not_not_intro ?_; assumption)) only [Z1, Z2, splice, z3m, g1])
    exact hQ _ (zbm k1 (.inr (Nat.le_refl _)))
  | some x =>
    obtain ⟨a, c⟩ := x
    have hcall : asF [errV (some (a, c)), .iface zkz (ptr (H.next + 1) 0)] H1 = some (.bool true, H1.set (H.next + 1) (some (.cells true [i64 a, i64 c]))) := by
      have hcond : (147 = 147 ∧ zkz = 149 ∧ H1.cell 2 0 = some (.chan (some TOK)) ∧ ∃ a' b' : Int, ([i64 a, i64 c].toArray : Array V) = #[i64 a', i64 b']) := ⟨rfl, rfl, hT1, a, c, rfl⟩
      show asF [.iface 147 (.agg [i64 a, i64 c].toArray), .iface zkz (ptr (H.next + 1) 0)] H1 = _
      unfold asF
      dsimp only
      rw [if_pos hcond]
      have hs : stn 2 (ptr (H.next + 1) 0) (.agg [i64 a, i64 c].toArray) H1 = some (undef, H1.set (H.next + 1) (some (.cells true [i64 a, i64 c]))) := by
        simp only [stn, g2]
        rw [if_pos (by rfl)]
        rfl
      simp only [zb, hs]; rfl
    refine ⟨_, _, hcall, ?_⟩
    have g1' : (H1.set (H.next + 1) (some (.cells true [i64 a, i64 c]))).get H.next = some (.cells true [i64 0, i64 0]) := by rw [Heap.get_set_ne _ _ _ (by omega)]; exact g1
    have g2' : (H1.set (H.next + 1) (some (.cells true [i64 a, i64 c]))).get (H.next + 1) = some (.cells true [i64 a, i64 c]) := Heap.get_set_self (by omega)
    have n2 : (H1.set (H.next + 1) (some (.cells true [i64 a, i64 c]))).next = H.next + 2 := by simp; exact n1
    have k2 : Keeps [] H (H1.set (H.next + 1) (some (.cells true [i64 a, i64 c]))) := zbm k1 (.inr (by omega))
    generalize H1.set (H.next + 1) (some (.cells true [i64 a, i64 c])) = H2 at *
    (try simp (maxSteps := 1000000) (disch := first | omega | (simp only [Z3]; omega) | (simp; done) | assumption | decide | (refine not_not_intro ?_; assumption)) only [Z1, Z2, splice, g1', g2'])
    exact hQ _ (zbm k2 (.inr (Nat.le_refl _)))
end Go.AM.Cap
