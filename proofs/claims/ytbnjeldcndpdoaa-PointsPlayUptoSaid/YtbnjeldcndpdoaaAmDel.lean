import Derived.Test.YtbnjeldcndpdoaaAmMap
set_option linter.all false
/- maps.DeleteFunc at a function that may write what lies elsewhere. -/
namespace Go.AM
open Go.RowKit (Below)
open Go.ChangeMaps (setBlock)

section code
variable (mt kt vt ct bt : TypeId)
def dl_a0 : Oper := { dst := some 6, op := .move (.tmp 0), type := mt, pos := "maps.go:70", after := #[], guard := none }
def dl_a1 : Oper := { dst := some 7, op := .range mt (.tmp 6), type := 0, pos := "maps.go:70", after := #[{ on := 0, ground := .data }], guard := none }
def dl_b0 : Oper := { dst := some 8, op := .next (.tmp 7) false, type := 0, pos := "maps.go:70", after := #[], guard := none }
def dl_b1 : Oper := { dst := some 9, op := .extract (.tmp 8) 0, type := bt, pos := "maps.go:70", after := #[{ on := 0, ground := .data }], guard := none }
def dl_c0 : Oper := { dst := some 10, op := .entry (.tmp 7), type := 0, pos := "maps.go:70", after := #[], guard := none }
def dl_c1 : Oper := { dst := some 11, op := .extract (.tmp 10) 0, type := kt, pos := "maps.go:70", after := #[{ on := 0, ground := .data }], guard := none }
def dl_c2 : Oper := { dst := some 12, op := .extract (.tmp 10) 1, type := vt, pos := "maps.go:70", after := #[{ on := 0, ground := .data }, { on := 4, ground := .gcOnly .lateStores }], guard := none }
def dl_c3 : Oper := { dst := some 4, op := .alloc kt, type := 0, pos := "maps.go:70", after := #[], guard := none }
def dl_c4 : Oper := { dst := none, op := .store kt (.tmp 4) (.tmp 11), type := 0, pos := "maps.go:70", after := #[{ on := 3, ground := .data }, { on := 1, ground := .data }, { on := 0, ground := .phase }, { on := 1, ground := .phase }, { on := 2, ground := .textOnly .lateStores }, { on := 3, ground := .phase }], guard := none }
def dl_c5 : Oper := { dst := some 5, op := .assign (.tmp 12), type := vt, pos := "maps.go:70", after := #[{ on := 2, ground := .data }, { on := 4, ground := .chain }, { on := 0, ground := .phase }, { on := 1, ground := .phase }, { on := 2, ground := .phase }, { on := 3, ground := .phase }, { on := 4, ground := .phase }], guard := none }
def dl_d0 : Oper := { dst := some 13, op := .move (.tmp 1), type := ct, pos := "maps.go:71", after := #[], guard := none }
def dl_d1 : Oper := { dst := some 14, op := .load kt (.tmp 4), type := kt, pos := "maps.go:71", after := #[], guard := none }
def dl_d2 : Oper := { dst := some 15, op := .move (.tmp 5), type := vt, pos := "maps.go:71", after := #[], guard := none }
def dl_d3 : Oper := { dst := some 16, op := .call { callee := .value (.tmp 13), args := #[.tmp 14, .tmp 15], argTypes := #[kt, vt] }, type := bt, pos := "maps.go:71", after := #[{ on := 0, ground := .data }, { on := 1, ground := .data }, { on := 2, ground := .data }], guard := none }
def dl_e0 : Oper := { dst := some 17, op := .move (.tmp 0), type := mt, pos := "maps.go:72", after := #[], guard := none }
def dl_e1 : Oper := { dst := some 18, op := .load kt (.tmp 4), type := kt, pos := "maps.go:72", after := #[], guard := none }
def dl_e2 : Oper := { dst := none, op := .call { callee := .builtin .delete, args := #[.tmp 17, .tmp 18], argTypes := #[mt, kt] }, type := 0, pos := "maps.go:72", after := #[{ on := 0, ground := .data }, { on := 1, ground := .data }], guard := none }
def dlC : Array Oper := #[dl_c0, dl_c1 kt, dl_c2 vt, dl_c3 kt, dl_c4 kt, dl_c5 vt]
def dlD : Array Oper := #[dl_d0 ct, dl_d1 kt, dl_d2 vt, dl_d3 kt vt bt]
def dlE : Array Oper := #[dl_e0 mt, dl_e1 kt, dl_e2 mt kt]
def delBody : Code := (Code.region 1 #[dl_b0, dl_b1 bt] false).seq ((Code.cond (.tmp 9) .skip (.exit 0)).seq (.block 1 ((Code.region 2 (dlC kt vt) false).seq ((Code.region 3 (dlD kt vt ct bt) false).seq (.cond (.tmp 16) (.region 4 (dlE mt kt) false) .skip)))))
/-- the code of maps.DeleteFunc -/
def delCode : Code := (Code.region 0 #[dl_a0 mt, dl_a1 mt] false).seq (.block 0 (delBody mt kt vt ct bt).loop)
end code

def enH (m f it : V) : Env := fun t => bif Nat.beq t 0 then m else bif Nat.beq t 1 then f else bif Nat.beq t 7 then it else undef
def enS (m f it k v : V) : Env := fun t => bif Nat.beq t 11 then k else bif Nat.beq t 12 then v else enH m f it t

section abs
variable (P : Program) (σ : Calls') (mt kt vt ct bt : TypeId) (m f it : V)
/-- one round: what the function says, and the key that is struck -/
def delStep (e : V × V) : M (Bool × V) :=
  bnd (runOps P σ 19 (dlC kt vt) [dl_c3 kt, dl_c4 kt, dl_c5 vt] (enS m f it e.1 e.2) ret) fun e2 =>
  bnd (runOps P σ 19 (dlD kt vt ct bt) (dlD kt vt ct bt).toList e2 ret) fun e3 =>
  match e3 16 with
  | .bool false => ret (false, undef)
  | .bool true => bnd (runOps P σ 19 (dlE mt kt) [dl_e0 mt, dl_e1 kt] e3 ret) fun e4 => ret (true, e4 18)
  | _ => fail
open Classical in
/-- rounds in an order; n: what lay there before -/
noncomputable def delRuns (es : List (V × V)) (del : Nat → Bool) (n : Nat) : List Nat → M Unit
  | [] => ret ()
  | i :: l => fun K => match delStep P σ mt kt vt ct bt m f it (es.getD i default) K with
    | some ((c, k), K1) => if c = del i ∧ (c = true → k = (es.getD i default).1) then delRuns es del n l (K1.cut n) else none
    | none => none
end abs
section runs
variable {P : Program} {σ : Calls'} {mt kt vt ct bt : TypeId} {m f it : V} {es : List (V × V)} {del : Nat → Bool} {n0 : Nat}
theorem delRuns_append : ∀ (l l' : List Nat) (K : Heap) (r : Unit × Heap), delRuns P σ mt kt vt ct bt m f it es del n0 (l ++ l') K = some r → ∃ K1, delRuns P σ mt kt vt ct bt m f it es del n0 l K = some ((), K1) ∧ delRuns P σ mt kt vt ct bt m f it es del n0 l' K1 = some r
  | [], l', K, r, h => ⟨K, rfl, h⟩
  | i :: l, l', K, r, h => by
    simp only [List.cons_append, delRuns] at h ⊢
    split at h
    · rename_i c k K1 hs
      split at h
      · rename_i hc; rw [if_pos hc]; exact delRuns_append l l' _ r h
      · cases h
    · cases h
theorem delRuns_snoc (l : List Nat) (i : Nat) (K K1 K2 : Heap) (h1 : delRuns P σ mt kt vt ct bt m f it es del n0 l K = some ((), K1)) (h2 : delRuns P σ mt kt vt ct bt m f it es del n0 [i] K1 = some ((), K2)) : delRuns P σ mt kt vt ct bt m f it es del n0 (l ++ [i]) K = some ((), K2) := by
  induction l generalizing K with
  | nil => simp only [delRuns, ret] at h1; cases h1; exact h2
  | cons x l ih =>
    simp only [List.cons_append, delRuns] at h1 ⊢
    split at h1
    · rename_i c k K1 hs
      split at h1
      · rename_i hc; rw [if_pos hc]; exact ih _ h1
      · cases h1
    · cases h1
end runs

/-- what stays of the entries -/
def keepE (es : List (V × V)) (del : Nat → Bool) : List (V × V) := ((List.range es.length).filter fun i => !del i).map fun i => es.getD i default

structure DelOK (P : Program) (σ : Calls') (mt kt vt ct bt : TypeId) (kk : KK) (b : Nat) (f : V) (es : List (V × V)) (H K : Heap) (del : Nat → Bool) : Prop where
  apart : keysApart kk es
  fits : ∀ e ∈ es, keyFits kk e.1 = true
  all : ∀ l : List Nat, l.Perm (List.range es.length) → delRuns P σ mt kt vt ct bt (.map (some b)) f (ptr H.next 0) es del (H.next + 1) l ((H.set b none).push none) = some ((), K)

open Classical in
/-- what maps.DeleteFunc does, if the order makes no difference -/
noncomputable def delF (P : Program) (σ : Calls') (mt kt vt ct bt : TypeId) (kk : KK) (args : List V) : M V := fun H => match args with
  | [.map (some b), f] => match H.get b with
    | some (.map true es) => if h : ∃ x : Heap × (Nat → Bool), DelOK P σ mt kt vt ct bt kk b f es H x.1 x.2 then some (undef, (Classical.choose h).1.set b (some (.map true (keepE es (Classical.choose h).2)))) else none
    | _ => none
  | _ => none

theorem delF_ok {P : Program} {σ : Calls'} {mt kt vt ct bt : TypeId} {kk : KK} {b : Nat} {f : V} {es : List (V × V)} {H K : Heap} {del : Nat → Bool} (hb : H.get b = some (.map true es)) (h : DelOK P σ mt kt vt ct bt kk b f es H K del) {Q : V → Heap → Prop}
    (hQ : ∀ K' del', DelOK P σ mt kt vt ct bt kk b f es H K' del' → Q undef (K'.set b (some (.map true (keepE es del'))))) : ∃ r H', delF P σ mt kt vt ct bt kk [.map (some b), f] H = some (r, H') ∧ Q r H' := by
  have hx : ∃ x : Heap × (Nat → Bool), DelOK P σ mt kt vt ct bt kk b f es H x.1 x.2 := ⟨(K, del), h⟩
  refine ⟨_, _, ?_, hQ _ _ (Classical.choose_spec hx)⟩
  simp only [delF, hb]
  rw [dif_pos hx]

theorem born_inj {E : Array MapEntry} {clk i j : Nat} (h : Born E clk) (hi : i < E.toList.length) (hj : j < E.toList.length) (e : (E.toList.getD i default).born = (E.toList.getD j default).born) : i = j := by
  rw [List.getD_eq_getElem?_getD, List.getD_eq_getElem?_getD, List.getElem?_eq_getElem hi, List.getElem?_eq_getElem hj] at e
  simp only [Option.getD_some] at e
  rcases Nat.lt_trichotomy i j with q | q | q
  · have := List.pairwise_iff_getElem.1 h.1 i j hi hj q; omega
  · exact q
  · have := List.pairwise_iff_getElem.1 h.1 j i hj hi q; omega

section sound
variable {P : Program} {N : Nat} {w₀ : World} {ρ : Ren} {H : Heap} {w : World} {σ : Calls'} {mt kt vt ct bt : TypeId}

theorem enH_weak {m f it : V} {en : Env} (h0 : en 0 = m) (h1 : en 1 = f) (h7 : en 7 = it) (t : Nat) : enH m f it t = en t ∨ enH m f it t = undef := by
  unfold enH
  cases e0 : Nat.beq t 0 with
  | true => have := Nat.eq_of_beq_eq_true e0; subst this; exact .inl h0.symm
  | false =>
    cases e1 : Nat.beq t 1 with
    | true => have := Nat.eq_of_beq_eq_true e1; subst this; exact .inl h1.symm
    | false =>
      cases e7 : Nat.beq t 7 with
      | true => have := Nat.eq_of_beq_eq_true e7; subst this; exact .inl h7.symm
      | false => exact .inr rfl
theorem enS_weak {m f it k v : V} {en : Env} (h0 : en 0 = m) (h1 : en 1 = f) (h7 : en 7 = it) (h11 : en 11 = k) (h12 : en 12 = v) (t : Nat) : enS m f it k v t = en t ∨ enS m f it k v t = undef := by
  unfold enS
  cases e0 : Nat.beq t 11 with
  | true => have := Nat.eq_of_beq_eq_true e0; subst this; exact .inl h11.symm
  | false =>
    cases e1 : Nat.beq t 12 with
    | true => have := Nat.eq_of_beq_eq_true e1; subst this; exact .inl h12.symm
    | false => exact enH_weak h0 h1 h7 t

/-- how things stand ahead of a round -/
structure DelInv (P : Program) (N : Nat) (w₀ : World) (ρ : Ren) (H : Heap) (w : World) (σ : Calls') (mt kt vt ct bt : TypeId) (kk : KK) (b : Nat) (f : V) (es : List (V × V)) (del : Nat → Bool) (E : Array MapEntry) (clk mb r : Nat)
    (done left : List Nat) (ρ1 : Ren) (K1 : Heap) (w1 : World) (a : Act) : Prop where
  rel : Rel N w₀ ρ1 K1 w1
  ext : Ext ρ H w ρ1 K1 w1
  free : ∀ c x M, K1.get c = some x → ρ1 c = some M → M.blk ≠ mb ∧ M.blk ≠ r
  env : EnvRel 19 ρ1 (enH (.map (some b)) f (ptr H.next 0)) a
  defers : a.defers = []
  it : ρ1 H.next = some ⟨r, 0, 0⟩
  perm : (done ++ left).Perm (List.range es.length)
  runs : delRuns P σ mt kt vt ct bt (.map (some b)) f (ptr H.next 0) es del (H.next + 1) done ((H.set b none).push none) = some ((), K1)
  iter : ∃ seen, w1.heap[r]? = some (.mapIter (some mb) clk seen clk) ∧ seen.toList = done.map fun i => (E.toList.getD i default).born
  ent : ∃ E1 : Array MapEntry, w1.heap[mb]? = some (.map E1 clk) ∧ E1.toList = ((List.range es.length).filter fun i => !(done.contains i && del i)).map fun i => E.toList.getD i default

theorem eval_put {a : Act} {d : Nat} {v : V} {n : Nat} (hs : a.tmps.size = n) (hd : d < n) : (a.put (some d) v).eval (.tmp d) = v := by
  show (a.put (some d) v).tmps.getD d undef = v
  rw [getD_put, if_pos ⟨rfl, by omega⟩]
theorem eval_put_ne {a : Act} {d t : Nat} {v : V} (h : t ≠ d) : (a.put (some d) v).eval (.tmp t) = a.eval (.tmp t) := by
  show (a.put (some d) v).tmps.getD t undef = a.tmps.getD t undef
  rw [getD_put, if_neg (fun q => h q.1)]

theorem lrel_fl {g h : Nat → V} : ∀ l : List Nat, (∀ j ∈ l, VRel ρ (g j) (h j)) → LRel ρ (l.map g) (l.map h)
  | [], _ => .nil
  | x :: l, hl => .cons (hl x (by simp)) (lrel_fl l fun j hj => hl j (by simp [hj]))

theorem fl_nodup (n : Nat) (p : Nat → Bool) : ((List.range n).filter p).Nodup := List.nodup_range.filter p

theorem del_round (hσ : SimAll P σ) (hG : P.globals.size ≤ N) {et : TypeId} (hu : P.underlying mt = some (.map kt et)) {kk : KK} (hkk : keyT P kt = some kk) {b : Nat} {f : V} {es : List (V × V)} {K : Heap} {del : Nat → Bool} {E : Array MapEntry} {clk mb r : Nat}
    (hok : DelOK P σ mt kt vt ct bt kk b f es H K del) (hB : Born E clk) (hEl : E.toList.length = es.length)
    (hkv : ∀ i, i < es.length → VRel ρ (es.getD i default).1 (E.toList.getD i default).key ∧ VRel ρ (es.getD i default).2 (E.toList.getD i default).val)
    (hmb : N ≤ mb) (hr : N ≤ r) (hne : mb ≠ r) (hrw : w.heap.size ≤ r) (hbH : ∃ b x L, H.get b = some x ∧ ρ b = some L ∧ L.blk = mb) (hbr : ∃ L, ρ b = some L ∧ L.blk = mb) (hbn : b < H.next)
    {done left : List Nat} {ρ1 : Ren} {K1 : Heap} {w1 : World} {a : Act} (inv : DelInv P N w₀ ρ H w σ mt kt vt ct bt kk b f es del E clk mb r done left ρ1 K1 w1 a)
    {Kn : Act → World → Prop} {Q : Exit → Act → World → Prop}
    (hEnd : ∀ a', left = [] → a'.defers = [] → Q (.exit 0) a' w1)
    (hGo : ∀ i l1 l2 ρ' K' w' a', left = l1 ++ i :: l2 → DelInv P N w₀ ρ H w σ mt kt vt ct bt kk b f es del E clk mb r (done ++ [i]) (l1 ++ l2) ρ' K' w' a' → Kn a' w') :
    (delBody mt kt vt ct bt).wp P (Exit.then Kn Q) a w1 := by
  obtain ⟨hRel, hExt, hfree, hEnv, hDef, hIt, hPerm, hRuns, ⟨seen, hIter, hSeen⟩, E1, hE1, hE1l⟩ := inv
  have hltb : mb < w1.heap.size := by
    rcases Nat.lt_or_ge mb w1.heap.size with q | q
    · exact q
    · rw [Array.getElem?_eq_none q] at hE1; cases hE1
  have hltr : r < w1.heap.size := by
    rcases Nat.lt_or_ge r w1.heap.size with q | q
    · exact q
    · rw [Array.getElem?_eq_none q] at hIter; cases hIter
  have hnodup : (done ++ left).Nodup := hPerm.nodup_iff.2 List.nodup_range
  have hmemE : ∀ x ∈ E1.toList, ∃ i, i < es.length ∧ (done.contains i && del i) = false ∧ x = E.toList.getD i default := fun x hx => by
    rw [hE1l] at hx
    obtain ⟨i, hi, rfl⟩ := List.mem_map.1 hx
    rw [List.mem_filter, List.mem_range] at hi
    exact ⟨i, hi.1, by have := hi.2; cases hq : (done.contains i && del i) <;> simp_all, rfl⟩
  have hEat : ∀ i, i < es.length → E.toList.getD i default ∈ E.toList := fun i hi => by
    rw [List.getD_eq_getElem?_getD, List.getElem?_eq_getElem (by omega)]
    exact List.getElem_mem _
  have hold : ∀ x ∈ E1.toList, x.born < clk := fun x hx => by
    obtain ⟨i, hi, _, rfl⟩ := hmemE x hx
    exact hB.2 _ (hEat i hi)
  have heval7 : a.eval (.tmp 7) = .pointer (some ⟨r, 0, none⟩) := by
    have h7 : VRel ρ1 (ptr H.next 0) (a.tmps.getD 7 undef) := hEnv.slot 7
    obtain ⟨L, hL, hv⟩ := h7.ptr_inv
    rw [hIt] at hL; cases hL
    exact hv
  unfold delBody
  refine wp_seq (wp_region_list ?_)
  show wpList P _ _ [dl_b0, dl_b1 bt] a w1
  rcases run_next_at (P := P) w1 0 r mb clk clk seen E1 clk hIter hE1 hold (Nat.le_refl _) with ⟨hz, hrun⟩ | ⟨e, he, w1', hal, hrun⟩
  · -- nothing is left
    have hleft : left = [] := by
      cases left with
      | nil => rfl
      | cons i l =>
        exfalso
        have hi : i < es.length := List.mem_range.1 (hPerm.mem_iff.1 (by simp))
        have hid : i ∉ done := fun hm => by
          have := (List.nodup_append.1 hnodup).2.2 i hm i (by simp)
          exact this rfl
        have hmem : E.toList.getD i default ∈ E1.toList := by
          rw [hE1l]
          refine List.mem_map.2 ⟨i, List.mem_filter.2 ⟨List.mem_range.2 hi, ?_⟩, rfl⟩
          have : done.contains i = false := by simpa using hid
          simp only [this, Bool.false_and, Bool.not_false]
        have hns : (E.toList.getD i default).born ∉ seen.toList := by
          rw [hSeen]
          intro hm
          obtain ⟨j, hj, hbj⟩ := List.mem_map.1 hm
          have hjl : j < es.length := List.mem_range.1 (hPerm.mem_iff.1 (by simp [hj]))
          have : j = i := born_inj hB (by omega) (by omega) hbj
          subst this; exact hid hj
        have : E.toList.getD i default ∈ (leftOf E1 seen).toList := by
          unfold leftOf
          rw [Array.toList_filter]
          refine List.mem_filter.2 ⟨hmem, ?_⟩
          have hc : seen.contains (E.toList.getD i default).born = false := by
            rw [← Bool.not_eq_true, Array.contains_iff_mem, ← Array.mem_toList_iff]; exact hns
          simp only [hc, Bool.not_false]
        have h0 : (leftOf E1 seen).toList = [] := List.eq_nil_of_length_eq_zero (by simpa using hz)
        rw [h0] at this; cases this
    refine hand_val (d := some 8) (v := .tuple #[.bool false]) (w' := w1) rfl rfl (by simp [execOp, dl_b0, heval7, hrun]) ?_
    refine hand_val (d := some 9) (v := .bool false) (w' := w1) rfl rfl (by
      have h8 : (a.put (some 8) (.tuple #[.bool false])).eval (.tmp 8) = .tuple #[.bool false] := eval_put hEnv.size (by omega)
      simp [execOp, dl_b1, h8, Instr.extract]) ?_
    show (Code.seq _ _).wp P _ ((a.put (some 8) _).put (some 9) _) w1
    refine wp_seq (wp_cond_false (eval_put (n := 19) (by rw [put_size]; exact hEnv.size) (by omega)) (wp_exit ?_))
    exact hEnd _ hleft hDef
  · -- an entry has come
    have hmem : e ∈ E1.toList ∧ e.born ∉ seen.toList := by
      unfold leftOf at he
      rw [Array.toList_filter] at he
      obtain ⟨q1, q2⟩ := List.mem_filter.1 he
      refine ⟨q1, fun hm => ?_⟩
      have : seen.contains e.born = true := by rw [Array.contains_iff_mem, ← Array.mem_toList_iff]; exact hm
      rw [this] at q2; cases q2
    obtain ⟨heE, hns⟩ := hmem
    obtain ⟨i, hi, hpi, hei⟩ := hmemE e heE
    have hid : i ∉ done := fun hm => hns (by rw [hSeen, hei]; exact List.mem_map.2 ⟨i, hm, rfl⟩)
    have hil : i ∈ left := by
      have : i ∈ done ++ left := hPerm.mem_iff.2 (List.mem_range.2 hi)
      rcases List.mem_append.1 this with q | q
      · exact absurd q hid
      · exact q
    obtain ⟨l1, l2, hl⟩ := List.append_of_mem hil
    have hperm2 : (done ++ (i :: (l1 ++ l2))).Perm (List.range es.length) := by
      refine List.Perm.trans (List.Perm.append_left done ?_) hPerm
      rw [hl]; exact List.perm_middle.symm
    obtain ⟨K1', hr1, hr2⟩ := delRuns_append _ _ _ _ (hok.all _ hperm2)
    rw [hRuns] at hr1; cases hr1
    -- the round on the abstract machine
    simp only [delRuns] at hr2
    split at hr2
    rotate_left
    · cases hr2
    rename_i c k K2 hstep
    split at hr2
    rotate_left
    · cases hr2
    rename_i hc
    have hruns2 : delRuns P σ mt kt vt ct bt (.map (some b)) f (ptr H.next 0) es del (H.next + 1) (done ++ [i]) ((H.set b none).push none) = some ((), K2.cut (H.next + 1)) := by
      refine delRuns_snoc _ _ _ _ _ hRuns ?_
      simp only [delRuns, hstep]
      rw [if_pos hc]; rfl
    obtain ⟨hkey, hval⟩ := hkv i hi
    rw [← hei] at hkey hval
    have hkey' := hkey.mono hExt.le
    have hval' := hval.mono hExt.le
    generalize hk0 : (es.getD i default).1 = k0 at *
    generalize hv0 : (es.getD i default).2 = v0 at *
    have hes : es.getD i default = (k0, v0) := by rw [← hk0, ← hv0]
    rw [hes] at hstep
    have hfit : keyFits kk k0 = true := by
      rw [← hk0]
      refine hok.fits _ ?_
      rw [List.getD_eq_getElem?_getD, List.getElem?_eq_getElem hi]
      exact List.getElem_mem _
    unfold delStep at hstep
    obtain ⟨e2, KA, hA, hs2⟩ := bnd_inv hstep
    obtain ⟨e3, KB, hB3, hs3⟩ := bnd_inv hs2
    clear hs2 hstep
    -- the world behind 'next'
    have hw1 : Rel N w₀ ρ1 K1 w1' ∧ Ext ρ H w ρ1 K1 w1' ∧ w1'.heap = w1.heap := by
      rcases hal with rfl | rfl
      · exact ⟨hRel, hExt, rfl⟩
      · exact ⟨hRel.drew _, hExt.drew _, rfl⟩
    obtain ⟨hRel1, hExt1, hheap⟩ := hw1
    generalize hW : setBlock w1' r (.mapIter (some mb) clk (seen.push e.born) clk) = W at *
    have hRelW : Rel N w₀ ρ1 K1 W := by rw [← hW]; exact hRel1.setBlock hr (fun c x M h1 h2 => (hfree c x M h1 h2).2) _
    have hExtW : Ext ρ H w ρ1 K1 W := by rw [← hW]; exact ext_setBlock hExt1 (.inl hrw) _
    have hIterW : W.heap[r]? = some (.mapIter (some mb) clk (seen.push e.born) clk) := by rw [← hW]; exact setBlock_at (by rw [hheap]; exact hltr)
    have hE1W : W.heap[mb]? = some (.map E1 clk) := by rw [← hW, setBlock_ne hne, hheap]; exact hE1
    have hszW : W.heap.size = w1.heap.size := by rw [← hW, setBlock_size, hheap]
    refine hand_val (d := some 8) (v := .tuple #[.bool true, e.key, e.val]) (w' := W) rfl rfl (by simp [execOp, dl_b0, heval7, hrun]) ?_
    refine hand_val (d := some 9) (v := .bool true) (w' := W) rfl rfl (by
      have h8 : (a.put (some 8) (.tuple #[.bool true, e.key, e.val])).eval (.tmp 8) = .tuple #[.bool true, e.key, e.val] := eval_put hEnv.size (by omega)
      simp [execOp, dl_b1, h8, Instr.extract]) ?_
    show (Code.seq _ _).wp P _ ((a.put (some 8) _).put (some 9) _) W
    refine wp_seq (wp_cond_true (eval_put (n := 19) (by rw [put_size]; exact hEnv.size) (by omega)) (wp_skip ?_))
    show (Code.block _ _).wp P _ ((a.put (some 8) _).put (some 9) _) W
    refine wp_block (wp_seq (wp_region_list ?_))
    generalize ha1 : (a.put (some 8) (.tuple #[.bool true, e.key, e.val])).put (some 9) (.bool true) = a1
    have hEnv1 : EnvRel 19 ρ1 (((enH (.map (some b)) f (ptr H.next 0)).put 19 (some 8) undef).put 19 (some 9) undef) a1 := by
      rw [← ha1]; exact (hEnv.put (some 8) (.undef _)).put (some 9) (.undef _)
    have h71 : a1.eval (.tmp 7) = .pointer (some ⟨r, 0, none⟩) := by
      rw [← ha1, eval_put_ne (by omega), eval_put_ne (by omega)]; exact heval7
    have hd1 : a1.defers = [] := by rw [← ha1]; exact hDef
    show wpList P _ _ [dl_c0, dl_c1 kt, dl_c2 vt, dl_c3 kt, dl_c4 kt, dl_c5 vt] a1 W
    have hnd : (E1.toList.map (·.born)).Nodup := by
      rw [hE1l, List.map_map]
      refine List.pairwise_map.2 ((fl_nodup es.length _).imp_of_mem fun {x y} hx hy hne' hxy => hne' ?_)
      have hx' := List.mem_range.1 (List.mem_filter.1 hx).1
      have hy' := List.mem_range.1 (List.mem_filter.1 hy).1
      exact born_inj hB (by omega) (by omega) hxy
    refine hand_val (d := some 10) (v := .tuple #[e.key, e.val]) (w' := W) rfl rfl (by simp [execOp, dl_c0, h71, run_entry_at (P := P) W r mb clk seen E1 clk e hIterW hE1W heE hnd]) ?_
    refine hand_val (d := some 11) (v := e.key) (w' := W) rfl rfl (by
      have h10 : (a1.put (some 10) (.tuple #[e.key, e.val])).eval (.tmp 10) = .tuple #[e.key, e.val] := eval_put hEnv1.size (by omega)
      simp [execOp, dl_c1, h10, Instr.extract]) ?_
    refine hand_val (d := some 12) (v := e.val) (w' := W) rfl rfl (by
      have h10 : ((a1.put (some 10) (.tuple #[e.key, e.val])).put (some 11) e.key).eval (.tmp 10) = .tuple #[e.key, e.val] := by
        rw [eval_put_ne (by omega)]; exact eval_put hEnv1.size (by omega)
      simp [execOp, dl_c2, h10, Instr.extract]) ?_
    generalize ha2 : ((a1.put (some 10) (.tuple #[e.key, e.val])).put (some 11) e.key).put (some 12) e.val = a2
    have hEnv2 : EnvRel 19 ρ1 (enS (.map (some b)) f (ptr H.next 0) k0 v0) a2 := by
      have := ((hEnv1.put (some 10) (VRel.undef (.tuple #[e.key, e.val]))).put (some 11) hkey').put (some 12) hval'
      rw [← ha2]
      exact this.weak (enS_weak rfl rfl rfl rfl rfl)
    have hd2 : a2.defers = [] := by rw [← ha2]; exact hd1
    refine runOps_sound hσ hG (dlC kt vt) [dl_c3 kt, dl_c4 kt, dl_c5 vt] ρ1 K1 W _ a2 hRelW hEnv2 hA fun ρa Ha wa ena aa q1 q2 q3 q4 q5 => ?_
    simp only [ret] at q5; cases q5
    show (Code.seq _ _).wp P _ aa wa
    refine wp_seq (wp_region_list (runOps_sound hσ hG (dlD kt vt ct bt) (dlD kt vt ct bt).toList ρa KA wa _ aa q1 q2 hB3 fun ρb Hb wb enb ab p1 p2 p3 p4 p5 => ?_))
    simp only [ret] at p5; cases p5
    have hx := q3.trans p3
    have hdb : ab.defers = [] := by rw [p4, q4]; exact hd2
    have hE1b : wb.heap[mb]? = some (.map E1 clk) := by rw [hx.apart.2 mb (by omega) fun c x M h1 h2 => (hfree c x M h1 h2).1]; exact hE1W
    have hItb : wb.heap[r]? = some (.mapIter (some mb) clk (seen.push e.born) clk) := by rw [hx.apart.2 r (by omega) fun c x M h1 h2 => (hfree c x M h1 h2).2]; exact hIterW
    have hfreeOf : ∀ (ρ' : Ren) (K' : Heap) (w' : World), Ext ρ1 K1 W ρ' K' w' → ∀ c x M, K'.get c = some x → ρ' c = some M → M.blk ≠ mb ∧ M.blk ≠ r := fun ρ' K' w' he c x M h1 h2 => by
      rcases he.old c x M h1 h2 with q | ⟨c0, x0, M0, h3, h4, h5⟩
      · omega
      · rw [← h5]; exact hfree c0 x0 M0 h3 h4
    have hs2 : ∀ t, (t = 0 ∨ t = 1 ∨ t = 7) → e3 t = enS (.map (some b)) f (ptr H.next 0) k0 v0 t := fun t ht => by
      rw [runOps_slots _ _ _ _ _ hB3 t ?_, runOps_slots _ _ _ _ _ hA t ?_]
      · intro o ho
        simp only [List.mem_cons, List.not_mem_nil, or_false] at ho
        rcases ho with rfl | rfl | rfl <;> rcases ht with rfl | rfl | rfl <;> (intro q; cases q)
      · intro o ho
        have ho' : o ∈ [dl_d0 ct, dl_d1 kt, dl_d2 vt, dl_d3 kt vt bt] := ho
        simp only [List.mem_cons, List.not_mem_nil, or_false] at ho'
        rcases ho' with rfl | rfl | rfl | rfl <;> rcases ht with rfl | rfl | rfl <;> (intro q; cases q)
    have hs20 : e3 0 = .map (some b) := hs2 0 (.inl rfl)
    have hs21 : e3 1 = f := hs2 1 (.inr (.inl rfl))
    have hs27 : e3 7 = ptr H.next 0 := hs2 7 (.inr (.inr rfl))
    have hflm : i ∈ (List.range es.length).filter fun j => !(done.contains j && del j) := List.mem_filter.2 ⟨List.mem_range.2 hi, by rw [hpi]; rfl⟩
    have hpermI : ((done ++ [i]) ++ (l1 ++ l2)).Perm (List.range es.length) := by
      have : (done ++ [i]) ++ (l1 ++ l2) = done ++ (i :: (l1 ++ l2)) := by simp
      rw [this]; exact hperm2
    have hseenI : (seen.push e.born).toList = (done ++ [i]).map fun i => (E.toList.getD i default).born := by
      rw [Array.toList_push, hSeen, List.map_append, List.map_singleton, ← hei]
    have h16 := p2.slot 16
    have hcase : e3 16 = .bool false ∨ e3 16 = .bool true := by
      cases hz : e3 16 with
      | bool t => cases t; exact .inl rfl; exact .inr rfl
      | _ => rw [hz] at hs3; exact (fail_ne hs3).elim
    rcases hcase with h16e | h16e
    · -- the function says no
      rw [h16e] at hs3
      simp only [ret] at hs3; cases hs3
      rw [h16e] at h16
      refine wp_cond_false h16.bool_inv (wp_skip ?_)
      show Kn ab wb
      refine hGo i l1 l2 ρb _ wb ab hl ⟨p1.cut _, (hExtW.trans hx).cut _, fun c x M h1 h2 => hfreeOf ρb _ wb hx c x M (Heap.cut_some h1).1 h2, p2.weak (enH_weak hs20 hs21 hs27), hdb, hx.le _ _ hIt, hpermI, hruns2, ⟨_, hItb, hseenI⟩, E1, hE1b, ?_⟩
      rw [hE1l]
      congr 1
      refine List.filter_congr fun j hj => ?_
      by_cases e : j = i
      · subst e
        have : del j = false := hc.1.symm
        simp [this]
      · have : (done ++ [i]).contains j = done.contains j := by simp [e]
        rw [this]
    · -- the function says yes
      rw [h16e] at hs3
      rw [h16e] at h16
      obtain ⟨e4, KC, hE4, hs4⟩ := bnd_inv hs3
      simp only [ret] at hs4; cases hs4
      have hE5 : bnd (gdM P σ (dlE mt kt) (dl_e1 kt) (e3.put 19 (some 17) (e3 0))) (fun v => ret ((e3.put 19 (some 17) (e3 0)).put 19 (some 18) v)) _ = some (e4, _) := hE4
      obtain ⟨kv, KC', hgk, hret⟩ := bnd_inv hE5
      simp only [ret] at hret; cases hret
      have hkv0 : kv = k0 := by have := hc.2 rfl; exact this
      subst hkv0
      refine wp_cond_true h16.bool_inv (wp_region_list ?_)
      show wpList P _ _ [dl_e0 mt, dl_e1 kt, dl_e2 mt kt] ab wb
      refine hand_val (d := some 17) (v := ab.eval (.tmp 0)) (w' := wb) rfl rfl (by simp [execOp, dl_e0]) ?_
      have hEnv17 : EnvRel 19 ρb (e3.put 19 (some 17) (e3 0)) (ab.put (some 17) (ab.eval (.tmp 0))) := p2.put (some 17) (p2.slot 0)
      refine step_op hσ hG p1 hEnv17 hgk fun r' w' hg => ?_
      obtain ⟨ρc, g1, g2, g3⟩ := hg
      show wpList P _ _ [dl_e2 mt kt] ((ab.put (some 17) (ab.eval (.tmp 0))).put (some 18) r') w'
      have hy := hx.trans g3
      have hE1c : w'.heap[mb]? = some (.map E1 clk) := by rw [hy.apart.2 mb (by omega) fun c x M h1 h2 => (hfree c x M h1 h2).1]; exact hE1W
      have hItc : w'.heap[r]? = some (.mapIter (some mb) clk (seen.push e.born) clk) := by rw [hy.apart.2 r (by omega) fun c x M h1 h2 => (hfree c x M h1 h2).2]; exact hIterW
      have hbv : ab.eval (.tmp 0) = .map (some mb) := by
        have h0 : VRel ρb (e3 0) (ab.tmps.getD 0 undef) := p2.slot 0
        rw [hs20] at h0
        obtain ⟨L, hL, hLm⟩ := hbr
        have hL2 := (hExtW.trans hx).le _ _ hL
        have : ab.tmps.getD 0 undef = .map (some mb) := by
          generalize ab.tmps.getD 0 undef = z at h0
          cases h0
          rename_i L' hL'
          rw [hL2] at hL'; cases hL'; rw [hLm]
        exact this
      have h17 : ((ab.put (some 17) (ab.eval (.tmp 0))).put (some 18) r').eval (.tmp 17) = .map (some mb) := by
        rw [eval_put_ne (by omega), eval_put p2.size (by omega)]; exact hbv
      have h18 : ((ab.put (some 17) (ab.eval (.tmp 0))).put (some 18) r').eval (.tmp 18) = r' := eval_put (n := 19) (by rw [put_size]; exact p2.size) (by omega)
      generalize hfl : ((List.range es.length).filter fun j => !(done.contains j && del j)) = fl at *
      have hfln : fl.Nodup := by rw [← hfl]; exact fl_nodup _ _
      have hfll : ∀ j ∈ fl, j < es.length := fun j hj => by rw [← hfl] at hj; exact List.mem_range.1 (List.mem_filter.1 hj).1
      obtain ⟨p, hp1, hp2, hp3⟩ := find_erase hok.apart hi fl hfln hfll hflm
      rw [hes] at hp1
      have hlr : LRel ρc ((fl.map fun j => es.getD j default).map (·.1)) (E1.toList.map (·.key)) := by
        rw [hE1l, List.map_map, List.map_map]
        exact lrel_fl fl fun j hj => (hkv j (hfll j hj)).1.mono ((hExtW.trans hy).le)
      refine hand_val (d := none) (v := .tuple #[]) (w' := setBlock w' mb (.map (E1.eraseIdxIfInBounds p) clk)) rfl rfl (by
        have := del_run (P := P) (w := w') (u := kt) (ty := 0) hu hkk hE1c hlr hfit g1 hp1
        simp [execOp, dl_e2, resolve, invoke, builtin, h17, h18, this]) ?_
      show Kn _ _
      have hlt' : mb < w'.heap.size := by
        rcases Nat.lt_or_ge mb w'.heap.size with q | q
        · exact q
        · rw [Array.getElem?_eq_none q] at hE1c; cases hE1c
      have hfr := hfreeOf ρc _ w' hy
      have hEnv18 : EnvRel 19 ρc ((e3.put 19 (some 17) (e3 0)).put 19 (some 18) kv) ((ab.put (some 17) (ab.eval (.tmp 0))).put (some 18) r') := (hEnv17.mono g3.le).put (some 18) g1
      refine hGo i l1 l2 ρc _ _ _ hl ⟨(g2.setBlock hmb (fun c x M h1 h2 => (hfr c x M h1 h2).1) _).cut _, (ext_setBlock (hExtW.trans hy) (.inr hbH) _).cut _, fun c x M h1 h2 => hfr c x M (Heap.cut_some h1).1 h2, hEnv18.weak (enH_weak hs20 hs21 hs27), hdb, hy.le _ _ hIt, hpermI, hruns2, ⟨_, by rw [setBlock_ne (Ne.symm hne)]; exact hItc, hseenI⟩, _, setBlock_at hlt', ?_⟩
      have hplt : p < E1.size := by
        have : E1.toList.length = fl.length := by rw [hE1l, List.length_map]
        rw [Array.length_toList] at this; omega
      have hto : (E1.eraseIdxIfInBounds p).toList = E1.toList.eraseIdx p := by simp [Array.eraseIdxIfInBounds, hplt]
      rw [hto, hE1l, ← map_eraseIdx, hp3, ← hfl, List.filter_filter]
      congr 1
      refine List.filter_congr fun j hj => ?_
      by_cases e : j = i
      · subst e
        have : del j = true := hc.1.symm
        simp [this]
      · simp [e]

theorem del_loop (hσ : SimAll P σ) (hG : P.globals.size ≤ N) {et : TypeId} (hu : P.underlying mt = some (.map kt et)) {kk : KK} (hkk : keyT P kt = some kk) {b : Nat} {f : V} {es : List (V × V)} {K : Heap} {del : Nat → Bool} {E : Array MapEntry} {clk mb r : Nat}
    (hok : DelOK P σ mt kt vt ct bt kk b f es H K del) (hB : Born E clk) (hEl : E.toList.length = es.length)
    (hkv : ∀ i, i < es.length → VRel ρ (es.getD i default).1 (E.toList.getD i default).key ∧ VRel ρ (es.getD i default).2 (E.toList.getD i default).val)
    (hmb : N ≤ mb) (hr : N ≤ r) (hne : mb ≠ r) (hrw : w.heap.size ≤ r) (hbH : ∃ b x L, H.get b = some x ∧ ρ b = some L ∧ L.blk = mb) (hbr : ∃ L, ρ b = some L ∧ L.blk = mb) (hbn : b < H.next) {Q : Exit → Act → World → Prop}
    (hEnd : ∀ done ρ' K' w' a' a0, DelInv P N w₀ ρ H w σ mt kt vt ct bt kk b f es del E clk mb r done [] ρ' K' w' a0 → a'.defers = [] → Q (.exit 0) a' w') :
    ∀ (k : Nat) (done left : List Nat) (ρ1 : Ren) (K1 : Heap) (w1 : World) (a : Act), left.length = k → DelInv P N w₀ ρ H w σ mt kt vt ct bt kk b f es del E clk mb r done left ρ1 K1 w1 a → Code.rounds P (delBody mt kt vt ct bt) Q (k + 1) a w1 := by
  intro k
  induction k with
  | zero =>
    intro done left ρ1 K1 w1 a hl inv
    rw [rounds_succ]
    refine del_round hσ hG hu hkk hok hB hEl hkv hmb hr hne hrw hbH hbr hbn inv (fun a' hl' hd => ?_) (fun i l1 l2 ρ' K' w' a' hl' _ => ?_)
    · subst hl'; exact hEnd _ _ _ _ _ _ inv hd
    · rw [hl'] at hl; simp at hl
  | succ k ih =>
    intro done left ρ1 K1 w1 a hl inv
    rw [rounds_succ]
    refine del_round hσ hG hu hkk hok hB hEl hkv hmb hr hne hrw hbH hbr hbn inv (fun a' hl' hd => ?_) (fun i l1 l2 ρ' K' w' a' hl' inv' => ?_)
    · subst hl'; simp at hl
    · refine ih _ _ ρ' K' w' a' ?_ inv'
      rw [hl'] at hl; simp at hl ⊢; omega

theorem del_sound (hσ : SimAll P σ) {g : FuncId} {fn : Func} (hf : P.funcs[g]? = some fn) (hb : fn.body = some (delCode mt kt vt ct bt)) (hres : fn.results = #[]) (hnt : fn.ntmps = 19) {et : TypeId} (hu : P.underlying mt = some (.map kt et)) {kk : KK} (hkk : keyT P kt = some kk) :
    SimF P g (delF P σ mt kt vt ct bt kk) := by
  intro N w₀ ρ H w args args' rr H' hG hR ha hF
  unfold delF at hF
  split at hF
  rotate_left
  · cases hF
  rename_i _ b f
  split at hF
  rotate_left
  · cases hF
  rename_i es hget
  split at hF
  rotate_left
  · cases hF
  rename_i hx
  have hok := Classical.choose_spec hx
  generalize (Classical.choose hx).1 = K at *
  generalize (Classical.choose hx).2 = del at *
  cases hF
  -- the arguments
  obtain ⟨m', f', rfl, hm, hfv⟩ : ∃ m' f', args' = [m', f'] ∧ VRel ρ (.map (some b)) m' ∧ VRel ρ f f' := by
    cases ha with
    | cons h1 h2 => cases h2 with
      | cons h2 h3 => cases h3; exact ⟨_, _, rfl, h1, h2⟩
  obtain ⟨L, hL, rfl⟩ : ∃ L, ρ b = some L ∧ m' = .map (some L.blk) := by cases hm; exact ⟨_, by assumption, rfl⟩
  obtain ⟨E, clk, hE, hN, h0, h2, h3⟩ := hR.map hget hL
  have hlt := hR.lt hget hL
  have hbn := Heap.get_lt hget
  obtain ⟨hN1, hB⟩ := hN rfl
  have hEl : E.toList.length = es.length := by have := h2.length; simpa using this.symm
  have hkv : ∀ i, i < es.length → VRel ρ (es.getD i default).1 (E.toList.getD i default).key ∧ VRel ρ (es.getD i default).2 (E.toList.getD i default).val := fun i hi => by
    have e1 := h2.getElem i (by simpa using hi) (by simpa using (by omega : i < E.toList.length))
    have e2 := h3.getElem i (by simpa using hi) (by simpa using (by omega : i < E.toList.length))
    rw [List.getD_eq_getElem?_getD, List.getD_eq_getElem?_getD, List.getElem?_eq_getElem hi, List.getElem?_eq_getElem (by omega)]
    exact ⟨by simpa using e1, by simpa using e2⟩
  refine calls_of_wp hf hb ?_
  have he0 : EnvRel 19 ρ (envOf [.map (some b), f]) { tmps := #[.map (some L.blk), f'] ++ Array.replicate (fn.ntmps - 2) undef, defers := [] } := by
    refine ⟨by rw [hnt]; simp, fun t => ?_⟩
    exact envOf_rel (args' := [.map (some L.blk), f']) (.cons hm (.cons hfv .nil)) _ t
  show Code.wp P _ _ { tmps := #[.map (some L.blk), f'] ++ Array.replicate (fn.ntmps - 2) undef, defers := [] } w
  generalize ha0 : ({ tmps := #[.map (some L.blk), f'] ++ Array.replicate (fn.ntmps - 2) undef, defers := [] } : Act) = a0 at *
  have hd0 : a0.defers = [] := by rw [← ha0]
  have hev0 : a0.eval (.tmp 0) = .map (some L.blk) := by
    have : VRel ρ (.map (some b)) (a0.eval (.tmp 0)) := he0.slot 0
    generalize a0.eval (.tmp 0) = z at this
    cases this
    rename_i L' hL'
    rw [hL] at hL'; cases hL'; rfl
  unfold delCode
  refine wp_seq (wp_region_list ?_)
  show wpList P _ _ [dl_a0 mt, dl_a1 mt] a0 w
  refine hand_val (d := some 6) (v := .map (some L.blk)) (w' := w) rfl rfl (by simp [execOp, dl_a0, hev0]) ?_
  have hev6 : (a0.put (some 6) (.map (some L.blk))).eval (.tmp 6) = .map (some L.blk) := eval_put he0.size (by omega)
  refine hand_val (d := some 7) (v := .pointer (some ⟨w.heap.size, 0, none⟩)) (w' := w.alloc (.mapIter (some L.blk) clk #[] clk)) rfl rfl (by simp [execOp, dl_a1, hev6, run_range_map w mt kt et L.blk E clk hu hE]) ?_
  show (Code.block _ _).wp P _ _ _
  generalize ha1 : (a0.put (some 6) (.map (some L.blk))).put (some 7) (.pointer (some ⟨w.heap.size, 0, none⟩)) = a1
  have hd1 : a1.defers = [] := by rw [← ha1]; exact hd0
  -- the map is not seen while it is walked
  have hRk : Rel N w₀ ρ (H.set b none) w := hR.kill hget
  have hRA := hRk.dead (.mapIter (some L.blk) clk #[] clk)
  have hnx : (H.set b none).next = H.next := Heap.next_set _ _ _
  have hEA : Ext ρ H w (ρ.add (H.set b none).next ⟨w.heap.size, 0, 0⟩) ((H.set b none).push none) (w.alloc (.mapIter (some L.blk) clk #[] clk)) := (kill_ext hget).trans (ext_dead hRk _)
  have hlookup : (ρ.add (H.set b none).next ⟨w.heap.size, 0, 0⟩) H.next = some ⟨w.heap.size, 0, 0⟩ := by unfold Ren.add; rw [if_pos hnx.symm]
  have hptr : VRel (ρ.add (H.set b none).next ⟨w.heap.size, 0, 0⟩) (ptr H.next 0) (.pointer (some ⟨w.heap.size, 0, none⟩)) := .ptr H.next 0 _ hlookup
  have hEnvA : EnvRel 19 (ρ.add (H.set b none).next ⟨w.heap.size, 0, 0⟩) (enH (.map (some b)) f (ptr H.next 0)) a1 := by
    have := ((he0.mono hEA.le).put (some 6) (VRel.undef (.map (some L.blk)))).put (some 7) hptr
    rw [← ha1]
    exact this.weak (enH_weak rfl rfl rfl)
  have hfree : ∀ c x M, ((H.set b none).push none).get c = some x → (ρ.add (H.set b none).next ⟨w.heap.size, 0, 0⟩) c = some M → M.blk ≠ L.blk ∧ M.blk ≠ w.heap.size := fun c x M h1 h2 => by
    rw [Heap.get_push] at h1
    split at h1
    · cases h1
    · rename_i hc
      unfold Ren.add at h2
      rw [if_neg hc] at h2
      rw [Heap.get_set H b _ c hbn] at h1
      split at h1
      · cases h1
      · rename_i hcb
        have := hR.lt h1 h2
        exact ⟨hR.inj c b x _ M L h1 hget hcb h2 hL, by omega⟩
  have inv : DelInv P N w₀ ρ H w σ mt kt vt ct bt kk b f es del E clk L.blk w.heap.size [] (List.range es.length) (ρ.add (H.set b none).next ⟨w.heap.size, 0, 0⟩) ((H.set b none).push none) (w.alloc (.mapIter (some L.blk) clk #[] clk)) a1 := by
    refine ⟨hRA, hEA, hfree, hEnvA, hd1, hlookup, List.Perm.refl _, rfl, ⟨#[], ?_, rfl⟩, E, ?_, ?_⟩
    · show (w.heap.push _)[w.heap.size]? = _; simp
    · show (w.heap.push _)[L.blk]? = _
      rw [Array.getElem?_push, if_neg (by omega)]; exact hE
    · rw [List.filter_eq_self.2 (by simp)]
      apply List.ext_getElem?
      intro i
      by_cases hi : i < es.length
      · rw [List.getElem?_map, List.getElem?_range hi, Option.map_some, List.getD_eq_getElem?_getD, List.getElem?_eq_getElem (by omega)]; rfl
      · rw [List.getElem?_eq_none (by omega), List.getElem?_eq_none (by simp; omega)]
  refine wp_block (wp_loop_rounds (es.length + 1) (del_loop (w := w) hσ hG hu hkk hok hB hEl hkv hN1 hR.big (by omega) (Nat.le_refl _) ⟨b, _, L, hget, hL, rfl⟩ ⟨L, hL, rfl⟩ hbn (fun done ρ' K' w' a' a2 inv' hd' => ?_) es.length [] (List.range es.length) _ _ _ _ (by simp) inv))
  show a'.defers = [] ∧ ∃ v, (results fn a'.tmps).run P w' = .ok v w' ∧ _
  refine ⟨hd', .tuple #[], by simp [results, hres], .tuple #[], rfl, ?_⟩
  obtain ⟨i1, i2, i3, i4, i5, i6, i7, i8, i9, E1, hE1, hE1l⟩ := inv'
  rw [List.append_nil] at i7
  have hK := hok.all done i7
  rw [i8] at hK; cases hK
  have hLb := i2.le _ _ hL
  have hbK : b < K.next := by have := i2.next; omega
  have hdone : ((List.range es.length).filter fun i => !(done.contains i && del i)) = (List.range es.length).filter fun i => !del i := List.filter_congr fun j hj => by
    have : done.contains j = true := by simpa using i7.mem_iff.2 hj
    rw [this, Bool.true_and]
  rw [hdone] at hE1l
  have hmemk : ∀ j ∈ (List.range es.length).filter fun i => !del i, j < es.length := fun j hj => List.mem_range.1 (List.mem_filter.1 hj).1
  have hsub : List.Sublist E1.toList E.toList := by
    have e : (List.range es.length).map (fun i => E.toList.getD i default) = E.toList := by
      apply List.ext_getElem?
      intro i
      by_cases hi : i < es.length
      · rw [List.getElem?_map, List.getElem?_range hi, Option.map_some, List.getD_eq_getElem?_getD, List.getElem?_eq_getElem (by omega)]; rfl
      · rw [List.getElem?_eq_none (by simp; omega), List.getElem?_eq_none (by omega)]
    rw [hE1l]
    conv => rhs; rw [← e]
    exact List.filter_sublist.map _
  refine ⟨ρ', .undef _, i1.revive hbK hLb ⟨h0, E1, clk, hE1, fun _ => ⟨hN1, hB.1.sublist hsub, fun x hx => hB.2 x (hsub.subset hx)⟩, ?_, ?_⟩ (fun c y M h1 h2 => (i3 c y M h1 h2).1), ?_⟩
  · unfold keepE
    rw [hE1l, List.map_map, List.map_map]
    exact lrel_fl _ fun j hj => (hkv j (hmemk j hj)).1.mono i2.le
  · unfold keepE
    rw [hE1l, List.map_map, List.map_map]
    exact lrel_fl _ fun j hj => (hkv j (hmemk j hj)).2.mono i2.le
  · refine ⟨i2.le, i2.same, by rw [Heap.next_set]; exact i2.next, i2.apart, fun c x M h1 h2 => ?_⟩
    rw [Heap.get_set K b _ c hbK] at h1
    split at h1
    · rename_i e; subst e
      rw [hLb] at h2; cases h2
      exact .inr ⟨c, _, L, hget, hL, rfl⟩
    · exact i2.old c x M h1 h2
end sound
end Go.AM
