import Derived.Test.YtehhkminlafeiaaGreatDoorWiAs
import Derived.Test.YtehhkminlafeiaaGreatDoorFun2
import Derived.Test.YtehhkminlafeiaaGreatDoorAmOpenF
import Derived.Test.YtehhkminlafeiaaGreatDoorAmHeap
set_option linter.all false
/- wire: errors.As on the abstract machine; fault -/
set_option maxHeartbeats 8000000
namespace Go.AM.Cap
open Go.AM Go.Proofs Go.Proofs.YtehhkminlafeiaaGreatDoor
theorem zbd6 {N : Nat} {w₀ : World} {ρ : Ren} {H : Heap} {w : World} (h : Rel N w₀ ρ H w) (o : Obj) : Rel N w₀ ρ H (w.alloc o) := by
  have hold : ∀ k, k < w.heap.size → (w.alloc o).heap[k]? = w.heap[k]? := fun k hk => by
    show (w.heap.push o)[k]? = _
    rw [Array.getElem?_push, if_neg (by omega)]
  refine ⟨h.below.trans ⟨rfl, rfl, rfl, by show w.heap.size ≤ (w.heap.push o).size; simp, fun k hk => hold k (Nat.lt_of_lt_of_le hk h.big)⟩, ?_, h.dom, h.base, fun b x hx => ?_, h.inj⟩
  · show N ≤ (w.heap.push o).size
    have := h.big; simp; omega
  · obtain ⟨L, hL, hr⟩ := h.blk b x hx
    exact ⟨L, hL, hr.mono (Ren.le.refl _) (hold _ (h.lt hx hL))⟩
theorem zbd7 {ρ ρ' : Ren} {H H' : Heap} {w w' : World} (h : Ext ρ H w ρ' H' w') (o : Obj) : Ext ρ H w ρ' H' (w'.alloc o) :=
  ⟨h.le, h.same, h.next, ⟨by have := h.apart.1; show w.heap.size ≤ (w'.heap.push o).size; simp; omega, fun c hc hn => by
    have := h.apart.1
    show (w'.heap.push o)[c]? = _
    rw [Array.getElem?_push, if_neg (by omega)]; exact h.apart.2 c hc hn⟩, h.old⟩
def TOK : Nat := 204 * 1099511627776 + 6 * 1048576 + 128
theorem zb2t : tokV TOK = .iface 204 (.agg #[.pointer (some ⟨6, 128, none⟩)]) := by
  unfold tokV TOK
  rfl
open Classical in
noncomputable def asF (args : List V) : M V := fun H => match args with
  | [.nilIface, _] => some (.bool false, H)
  | [.iface te (.agg cs), .iface tp p] => if te = 161 ∧ tp = 163 ∧ H.cell 1 0 = some (.chan (some TOK)) ∧ ∃ a b : Int, cs = #[i64 a, i64 b] then zb (stn 2 p (.agg cs)) (fun _ => ret (.bool true)) H else none
  | _ => none
theorem as_known : zy Tryz.prog zhd asF := by
  refine ⟨by kernel_rfl, ?_⟩
  intro N w₀ ρ H w args args' r H' hG hR ha hl
  have hgs : Tryz.prog.globals.size = 6 := by kernel_rfl
  unfold asF at hl
  split at hl
  · cases hl
    obtain ⟨t', rfl⟩ : ∃ t', args' = [.nilIface, t'] := by
      cases ha with
      | cons h1 h2 => cases h2 with
        | cons h2 h3 => cases h3; cases h1; exact ⟨_, rfl⟩
    refine (AsWalk.as_nil t' w).mono fun e w' ⟨he, hw⟩ => ?_
    subst hw
    exact ⟨_, he, ρ, .bool _, hR, .refl _ _ _⟩
  · rename_i te cs tp p
    split at hl
    · rename_i hc
      obtain ⟨rfl, rfl, hcell, a, b, rfl⟩ := hc
      obtain ⟨v, H1, h1, h2⟩ := z3z hl
      simp only [ret] at h2; cases h2
      obtain ⟨p', rfl, hp⟩ : ∃ p', args' = [.iface 161 (.agg #[i64 a, i64 b]), .iface 163 p'] ∧ VRel ρ p p' := by
        cases ha with
        | cons q1 q2 => cases q2 with
          | cons q2 q3 =>
            cases q3
            cases q1 with
            | iface t v v' hv =>
              cases q2 with
              | iface t2 w1 w2 hw =>
                refine ⟨_, ?_, hw⟩
                obtain ⟨x', rfl, hx⟩ := hv.agg_inv
                obtain ⟨x'⟩ := x'
                cases hx with
                | cons r1 r2 => cases r2 with
                  | cons r2 r3 =>
                    cases r3
                    have := r1.int_inv; have := r2.int_inv
                    subst_vars; rfl
      have hpp : ∃ bb o, p = .pointer (some ⟨bb, o, none⟩) := by
        unfold stn at h1
        split at h1
        · exact ⟨_, _, rfl⟩
        · cases h1
      obtain ⟨bb, o, rfl⟩ := hpp
      obtain ⟨L, hL, rfl⟩ := hp.ptr_inv
      obtain ⟨s0, h0⟩ := hR.base 1 (by omega)
      have hca : cellsAt H 1 0 1 = some [.chan (some TOK)] := by
        unfold Heap.cell at hcell
        split at hcell
        · rename_i rw_ cs' hg
          unfold cellsAt
          rw [hg]
          have hlt : 0 < cs'.length := by
            rcases Nat.eq_zero_or_pos cs'.length with q | q
            · rw [List.eq_nil_of_length_eq_zero q] at hcell; cases hcell
            · exact q
          simp only
          rw [if_pos (by omega)]
          congr 1
          match cs', hcell with
          | c :: cs', hcell => simp at hcell; rw [hcell]; rfl
        · cases hcell
      obtain ⟨_, l', hrel, hat⟩ := hR.cellsAt hca h0
      have hg0 : w.cell? ⟨1, 0, none⟩ = some (.iface 204 (.agg #[.pointer (some ⟨6, 128, none⟩)])) := by
        cases hrel with
        | cons r1 r2 =>
          cases r2
          have e := hat 0 _ rfl
          rw [e]
          cases r1
          rw [zb2t]
      have hRg : Rel N w₀ ρ H (AsWalk.grown w ⟨L.blk, L.off + o, none⟩ (i64 a) (i64 b)) := zbd6 (zbd6 (zbd6 (zbd6 hR _) _) _) _
      have hEg : Ext ρ H w ρ H (AsWalk.grown w ⟨L.blk, L.off + o, none⟩ (i64 a) (i64 b)) := zbd7 (zbd7 (zbd7 (zbd7 (.refl _ _ _) _) _) _) _
      have htk : tk Tryz.prog 161 = some (.agg 2) := by kernel_rfl
      obtain ⟨rfl, w', hst, hR', hE'⟩ := zbln (P := Tryz.prog) hRg htk h1 hp (.agg' (.cons (.int _ _) (.cons (.int _ _) .nil)) : VRel ρ (.agg #[i64 a, i64 b]) (.agg #[i64 a, i64 b]))
      have hst' : (storeVar 161 ⟨L.blk, L.off + o, none⟩ (.agg #[i64 a, i64 b])).run Tryz.prog (AsWalk.grown w ⟨L.blk, L.off + o, none⟩ (i64 a) (i64 b)) = .ok () w' := by
        simpa [Instr.storeAt, Instr.sureAddr] using hst
      have hld : (loadVar 161 ⟨w.heap.size + 1 + 1 + 1, 0, none⟩).run Tryz.prog (AsWalk.grown w ⟨L.blk, L.off + o, none⟩ (i64 a) (i64 b)) = .ok (.agg #[i64 a, i64 b]) (AsWalk.grown w ⟨L.blk, L.off + o, none⟩ (i64 a) (i64 b)) := by
        have hcl : (AsWalk.grown w ⟨L.blk, L.off + o, none⟩ (i64 a) (i64 b)).heap[w.heap.size + 1 + 1 + 1]? = some (.cells #[i64 a, i64 b] 161 (0, 0)) := by
          have key : ∀ (W : World) (o : Obj) (n : Nat), W.heap.size = n → (W.alloc o).heap[n]? = some o := fun W o n hn => by
            subst hn
            show (W.heap.push o)[W.heap.size]? = some o
            simp
          exact key _ _ _ (by simp only [World.alloc, Array.size_push])
        have hrun := ziu (P := Tryz.prog) (w := AsWalk.grown w ⟨L.blk, L.off + o, none⟩ (i64 a) (i64 b)) (b := w.heap.size + 1 + 1 + 1) (o := 0) (l := [i64 a, i64 b]) (fun j v hj => by
          unfold World.cell?
          simp only [hcl]
          simpa using hj)
        simp only [List.length_cons, List.length_nil] at hrun
        simp [loadVar, (z59 htk).1, (z59 htk).2, hrun]
      refine (AsWalk.as_hit ⟨L.blk, L.off + o, none⟩ (i64 a) (i64 b) w w' hg0 hld hst').mono fun e w2 ⟨he, hw⟩ => ?_
      subst hw
      exact ⟨_, he, ρ, .bool _, hR', hEg.trans hE'⟩
    · cases hl
  · cases hl
end Go.AM.Cap

/- wire: numbers, unsigned, bad, fault -/
set_option maxHeartbeats 8000000
namespace Go.AM.Cap
open Go.AM Go.Proofs
theorem zbyq (x : BitVec 64) (k : IntKind) (n : Nat) : zj .shl (W x) (.int k n) = some (W (x <<< n)) := by
  have h := zbt2 x.toNat n 64
  have h0 : ¬ ((n : Int) < 0) := by omega
  simp only [zj, zxj, IntKind.bits, h0, if_false, zbih, Int.toNat_natCast, h]
  show some (Value.int .u64 _) = some (Value.int .u64 ((x <<< n).toNat : Int))
  rw [BitVec.toNat_shiftLeft]
theorem zbyr (x : BitVec 64) : zj .shl (W x) (.int .u64 8) = some (W (x <<< 8)) := zbyq x .u64 8
theorem zb2u (x y : BitVec 64) : zj .or (W x) (W y) = some (W (x ||| y)) := by
  simp [zj, zzy, z55, zbih, zfw, IntKind.bits]; rfl
theorem zb00 (x y : BitVec 64) : zj .add (W x) (W y) = some (W (x + y)) := by
  simp [zj, zzy, zbih, ← Int.natCast_add, zfw]
theorem zb13 (x : BitVec 8) : cvi .u64 (B x) = some (W (x.setWidth 64)) := by
  simp [cvi, zbih, zfw]
theorem zbv2 (n : Nat) (h : n < 18446744073709551616) : IntKind.i64.wrap (n : Int) = if 2 * n < 18446744073709551616 then (n : Int) else (n : Int) - 18446744073709551616 := by
  rw [IntKind.wrap_i64]
  split <;> omega
theorem zbhb (x : BitVec 64) : cvi .i64 (W x) = some (i64 x.toInt) := by
  have h : IntKind.i64.wrap ((x.toNat : Nat) : Int) = x.toInt := by
    rw [zbv2 _ x.isLt]
    rfl
  show some (Value.int .i64 (IntKind.i64.wrap ((x.toNat : Nat) : Int))) = _
  rw [h]
theorem zbhc (n : Int) : cvi .u64 (i64 n) = some (W (BitVec.ofInt 64 n)) := by
  simp only [cvi, zbih]
def zht (l : List (BitVec 8)) : BitVec 64 := l.foldl (fun n b => n <<< 8 ||| b.setWidth 64) 0
theorem z78 (s : ByteArray) (hs : s.size ≤ 1000000) : zfs [.string s] = ret (W (zht (bv s))) := zbnj fun H => by
  show wp (zqv (.string s)) _ H
  (try simp (maxSteps := 1000000) (disch := first | omega | (simp only [Z3]; omega) | (simp; done) | assumption | decide | (refine not_not_intro ?_; assumption)) only [Z1, Z2, splice, zqv])
  refine zbt (Inv := fun k vs H' => ∃ i : Nat, k = s.size - i ∧ i ≤ s.size ∧ vs = [.string s, W (zht ((bv s).take i)), i64 s.size, i64 i] ∧ H' = H) (n := s.size) (by unfold zcc; omega)
    ⟨0, by omega, by omega, rfl, rfl⟩ ?_
  rintro k vs H' ⟨i, hk, hi, rfl, he⟩
  rw [he]; clear he H'
  have hb := zb7 s
  by_cases hlt : i < s.size
  · have ix := zoy (s := s) (k := .i64) (i := i) (by omega) (by omega)
    rw [Int.toNat_natCast] at ix
    (try simp (maxSteps := 1000000) (disch := first | omega | (simp only [Z3]; omega) | (simp; done) | assumption | decide | (refine not_not_intro ?_; assumption)) only [Z1, Z2, splice, zua, z2z, zbyr, ix, zb13, zb2u, z2y])
    refine ⟨s.size - (i + 1), by omega, i + 1, rfl, by omega, ?_⟩
    have e : zht ((bv s).take (i + 1)) = zht ((bv s).take i) <<< 8 ||| ((bv s).getD i 0).setWidth 64 := by
      unfold zht
      rw [List.take_succ, List.getElem?_eq_getElem (by omega), List.getD_eq_getElem?_getD, List.getElem?_eq_getElem (by omega), List.foldl_append]
      rfl
    rw [e]
    exact ⟨by push_cast; rfl, trivial⟩
  · have : i = s.size := by omega
    subst this
    rw [← hb, List.take_length]
    (try simp (maxSteps := 1000000) (disch := first | omega | (simp only [Z3]; omega) | (simp; done) | assumption | decide | (refine not_not_intro ?_; assumption)) only [Z1, Z2, splice, zua, z20])
def errV : Option (Int × Int) → V
  | none => .nilIface
  | some (a, c) => .iface 161 (.agg [i64 a, i64 c].toArray)
theorem zbbf (a c : Int) : zh9 [i64 a, i64 c] = ret (errV (some (a, c))) := zbnj fun H => by
  show wp (z4l (i64 a) (i64 c)) _ H
  (try simp (maxSteps := 1000000) (disch := first | omega | (simp only [Z3]; omega) | (simp; done) | assumption | decide | (refine not_not_intro ?_; assumption)) only [Z1, Z2, splice, z4l])
  exact ⟨rfl, trivial⟩
def Tok (H : Heap) : Prop := H.cell 1 0 = some (.chan (some TOK))
theorem Tok.keep {S : List Nat} {H H' : Heap} (h : Tok H) (hk : Keeps S H H') (hs : 1 ∉ S) : Tok H' := by
  unfold Tok Heap.cell at *
  have : H.get 1 ≠ none := fun e => by rw [e] at h; cases h
  have hlt : 1 < H.next := by
    cases hg : H.get 1 with
    | none => exact absurd hg this
    | some x => exact Heap.get_lt hg
  rw [hk.same 1 hlt hs]; exact h
theorem Tok.keep0 {H H' : Heap} (h : Tok H) (hk : Keeps [] H H') : Tok H' := h.keep hk (by simp)
theorem Tok.lt {H : Heap} (h : Tok H) : 1 < H.next := by
  unfold Tok Heap.cell at h
  cases hg : H.get 1 with
  | none => rw [hg] at h; cases h
  | some x => exact Heap.get_lt hg
def zdz : Option (Int × Int) → Int × Int
  | none => (0, 0)
  | some x => x
theorem zbys {H : Heap} (hT : Tok H) (e : Option (Int × Int)) (Q : V → Heap → Prop) (hQ : ∀ H', Keeps [] H H' → Q (.agg [i64 (zdz e).1, i64 (zdz e).2].toArray) H') : wp (zpb asF [errV e]) Q H := by
  show wp (zxd asF (errV e)) Q H
  (try simp (maxSteps := 1000000) (disch := first | omega | (simp only [Z3]; omega) | (simp; done) | assumption | decide | (refine not_not_intro ?_; assumption)) only [Z1, Z2, splice, zxd])
  have k1 : Keeps [] H ((H.push (some (.cells true [i64 0, i64 0]))).push (some (.cells true [i64 0, i64 0]))) := zh8 (Keeps.push _ _ _)
  have g1 : ((H.push (some (.cells true [i64 0, i64 0]))).push (some (.cells true [i64 0, i64 0]))).get H.next = some (.cells true [i64 0, i64 0]) := by
    rw [Heap.get_push_lt (by simp)]; exact Heap.get_push_self _ _
  have g2 : ((H.push (some (.cells true [i64 0, i64 0]))).push (some (.cells true [i64 0, i64 0]))).get (H.next + 1) = some (.cells true [i64 0, i64 0]) := Heap.get_push_eq (by simp)
  have hT1 := hT.keep0 k1
  have n1 : ((H.push (some (.cells true [i64 0, i64 0]))).push (some (.cells true [i64 0, i64 0]))).next = H.next + 2 := by simp
  generalize ((H.push (some (.cells true [i64 0, i64 0]))).push (some (.cells true [i64 0, i64 0]))) = H1 at *
  cases e with
  | none =>
    refine ⟨.bool false, H1, rfl, ?_⟩
    (try simp (maxSteps := 1000000) (disch := first | omega | (simp only [Z3]; omega) | (simp; done) | assumption | decide | (refine not_not_intro ?_; assumption)) only [Z1, Z2, splice, z95, g1])
    exact hQ _ (zfj k1 (.inr (Nat.le_refl _)))
  | some x =>
    obtain ⟨a, c⟩ := x
    have hcall : asF [errV (some (a, c)), .iface zm6 (ptr (H.next + 1) 0)] H1 = some (.bool true, H1.set (H.next + 1) (some (.cells true [i64 a, i64 c]))) := by
      have hcond : (161 = 161 ∧ zm6 = 163 ∧ H1.cell 1 0 = some (.chan (some TOK)) ∧ ∃ a' b' : Int, ([i64 a, i64 c].toArray : Array V) = #[i64 a', i64 b']) := ⟨rfl, rfl, hT1, a, c, rfl⟩
      show asF [.iface 161 (.agg [i64 a, i64 c].toArray), .iface zm6 (ptr (H.next + 1) 0)] H1 = _
      unfold asF
      dsimp only
      rw [if_pos hcond]
      have hs : stn 2 (ptr (H.next + 1) 0) (.agg [i64 a, i64 c].toArray) H1 = some (undef, H1.set (H.next + 1) (some (.cells true [i64 a, i64 c]))) := by
        simp only [stn, g2]
        rw [if_pos (by rfl)]
        rfl
      simp only [zb, hs]; rfl
    refine ⟨_, _, hcall, ?_⟩
    have g1' : (H1.set (H.next + 1) (some (.cells true [i64 a, i64 c]))).get H.next = some (.cells true [i64 0, i64 0]) := by rw [Heap.get_set_ne _ _ _ (by omega)]; exact g1
    have g2' : (H1.set (H.next + 1) (some (.cells true [i64 a, i64 c]))).get (H.next + 1) = some (.cells true [i64 a, i64 c]) := Heap.get_set_self (by omega)
    have n2 : (H1.set (H.next + 1) (some (.cells true [i64 a, i64 c]))).next = H.next + 2 := by simp; exact n1
    have k2 : Keeps [] H (H1.set (H.next + 1) (some (.cells true [i64 a, i64 c]))) := zfj k1 (.inr (by omega))
    generalize H1.set (H.next + 1) (some (.cells true [i64 a, i64 c])) = H2 at *
    (try simp (maxSteps := 1000000) (disch := first | omega | (simp only [Z3]; omega) | (simp; done) | assumption | decide | (refine not_not_intro ?_; assumption)) only [Z1, Z2, splice, g1', g2'])
    exact hQ _ (zfj k2 (.inr (Nat.le_refl _)))
end Go.AM.Cap

/- wire: items, lists, their bytes; Encode -/
set_option maxHeartbeats 8000000
namespace Go.AM.Cap
open Go.AM Go.Proofs
structure It where
  t : Bool
  n : Int
  s : ByteArray
deriving DecidableEq
instance : Inhabited It := ⟨⟨false, 0, ⟨#[]⟩⟩⟩
instance : Flat It := ⟨3, fun x => [.bool x.t, i64 x.n, .string x.s], fun _ => rfl, fun _ => rfl, by decide⟩
theorem zzs (x : It) : Flat.enc x = [.bool x.t, i64 x.n, .string x.s] := rfl
def zjr (x : It) : Bool := if x.t then decide (x.n = 0 ∧ x.s.size ≤ 65535) else decide (x.s = ⟨#[]⟩)
def be8 (n : Int) : List (BitVec 8) := (List.range 8).map fun j => ((BitVec.ofInt 64 n) >>> (56 - 8 * j)).setWidth 8
def w2 (n : Nat) : List (BitVec 8) := [BitVec.ofNat 8 (n / 256), BitVec.ofNat 8 n]
def zpx (x : It) : List (BitVec 8) := if x.t then 36 :: (w2 x.s.size ++ bv x.s) else 35 :: be8 x.n
def zvl (l : List It) : List (BitVec 8) := w2 l.length ++ l.flatMap zpx
def zhu (l : List It) : ByteArray × Int :=
  if l.length > 1000 then (⟨#[]⟩, 2) else if l.any (fun x => !zjr x) then (⟨#[]⟩, 4) else if (zvl l).length > 65536 then (⟨#[]⟩, 2) else (sv (zvl l), 0)
theorem zdt (n : Int) : (be8 n).length = 8 := by simp [be8]
theorem zbj0 (n : Int) (j : Nat) (h : j < 8) : (be8 n).take (j + 1) = (be8 n).take j ++ [((BitVec.ofInt 64 n) >>> (56 - 8 * j)).setWidth 8] := by
  rw [List.take_succ, List.getElem?_eq_getElem (by rw [zdt]; exact h)]
  simp [be8]
theorem zbqx (n : Nat) : zj .shr (i64 n) (.int .u64 8) = some (i64 ((n / 256 : Nat) : Int)) := by
  show some (Value.int .i64 (Int.fdiv (n : Int) (2 ^ (min (Int.toNat 8) 64)))) = _
  rw [show ((2 : Int) ^ (min (Int.toNat 8) 64)) = 256 from rfl, Int.fdiv_eq_ediv_of_nonneg _ (by omega)]
  rfl
theorem zboh (n : Nat) : cvi .u8 (i64 n) = some (B (BitVec.ofNat 8 n)) := by
  simp only [cvi, IntKind.wrap_u8]
  show some (Value.int .u8 _) = some (Value.int .u8 ((BitVec.ofNat 8 n).toNat : Int))
  rw [BitVec.toNat_ofNat]
  rfl
theorem zbhd (x : BitVec 64) (n : Int) (h : 0 ≤ n) : zj .shr (W x) (i64 n) = some (W (x >>> n.toNat)) := by
  have h' := zbm5 x.toNat n.toNat 64 x.isLt
  have h0 : ¬ (n < 0) := by omega
  simp only [zj, zxj, IntKind.bits, h0, if_false, h']
  rfl
theorem zboi (x : BitVec 64) : cvi .u8 (W x) = some (B (x.setWidth 8)) := by
  simp only [cvi, IntKind.wrap_u8]
  show some (Value.int .u8 _) = some (Value.int .u8 ((x.setWidth 8).toNat : Int))
  rw [BitVec.toNat_setWidth]
  rfl
theorem B36 : Value.int .u8 36 = B 36 := rfl
theorem B35 : Value.int .u8 35 = B 35 := rfl
theorem zb01 {H : Heap} {w x7 : V} {a b c d : V} {acc : List (BitVec 8)} {n : Int} (hw : zcj H w acc) (hb : acc.length ≤ 200000) {xb : Nat} (hx : x7 = ptr xb 0) {t : Bool} {s : ByteArray} (hg : H.get xb = some (.cells true [.bool t, i64 n, .string s])) (hnot : xb ∉ vb w) (Q : Out → Heap → Prop)
    (hQ : ∀ w' H', zcj H' w' (acc ++ be8 n) → Keeps (vb w) H H' → (∀ b ∈ vb w', b ∈ vb w ∨ H.next ≤ b) → Q (.brk 3 [w', a, b, c, d]) H') :
    wp (zce zcc ztg [w, a, x7, i64 56, b, c, d]) Q H := by
  subst hx
  refine zbt (Inv := fun k vs H' => ∃ (j : Nat) (w' : V), k = 8 - j ∧ j ≤ 8 ∧ vs = [w', a, ptr xb 0, i64 (56 - 8 * (j : Int)), b, c, d] ∧ zcj H' w' (acc ++ (be8 n).take j) ∧ Keeps (vb w) H H' ∧ (∀ b ∈ vb w', b ∈ vb w ∨ H.next ≤ b)) (n := 8) (by unfold zcc; omega)
    ⟨0, w, by omega, by omega, by simp, by simpa using hw, Keeps.refl _ _, fun b hb => .inl hb⟩ ?_
  rintro k vs H1 ⟨j, w', hk, hj, rfl, ho, hk1, hv⟩
  by_cases hlt : j < 8
  case neg =>
    have : j = 8 := by omega
    subst this
    (try simp (maxSteps := 1000000) (disch := first | omega | (simp only [Z3]; omega) | (simp; done) | assumption | decide | (refine not_not_intro ?_; assumption)) only [Z1, Z2, splice, ztg])
    rw [List.take_of_length_le (by rw [zdt]; omega)] at ho
    exact hQ _ _ ho hk1 hv
  have g1 : H1.get xb = some (.cells true [.bool t, i64 n, .string s]) := hk1.get hg hnot
  (try simp (maxSteps := 1000000) (disch := first | omega | (simp only [Z3]; omega) | (simp; done) | assumption | decide | (refine not_not_intro ?_; assumption)) only [Z1, Z2, splice, ztg, z7v, g1, zbhc, zbhd, zboi])
  refine zrk (α := BitVec 8) (ys := [((BitVec.ofInt 64 n) >>> (56 - 8 * j)).setWidth 8]) rfl ho (by rfl) (by rw [show (56 - 8 * (j : Int)).toNat = 56 - 8 * j from by omega]; rfl) rfl ?_ ?_ fun w2 H2 o2 k2 v2 => ?_
  · simp [zdt]; omega
  · simp [zdt]; omega
  (try simp (maxSteps := 1000000) (disch := first | omega | (simp only [Z3]; omega) | (simp; done) | assumption | decide | (refine not_not_intro ?_; assumption)) only [Z1, Z2, splice, z7u])
  refine ⟨8 - (j + 1), by omega, j + 1, w2, rfl, by omega, ?_, ?_, ?_, ?_⟩
  · simp; omega
  · rw [zbj0 n j hlt, ← List.append_assoc]; exact o2
  · exact hk1.trans k2 fun b hb hm => (hv b hm).resolve_right (by omega)
  · intro b hb
    rcases v2 b hb with q | q
    · exact hv b q
    · exact .inr (Nat.le_trans hk1.next q)
end Go.AM.Cap
