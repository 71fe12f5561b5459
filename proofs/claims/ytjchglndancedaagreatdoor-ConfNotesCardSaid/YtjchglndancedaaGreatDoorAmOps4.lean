import Derived.Test.YtjchglndancedaaGreatDoorAmOps2
import Derived.Laws.BytesString
set_option linter.all false
/- Operations that read and write no memory: the theorem. -/
namespace Go.AM
open Go.RowKit (Below)
variable {P : Program} {ρ : Ren}
theorem zfo {t : TypeId} {n : Nat} (h : zhn P t = some n) (w : World) : (sizeOf t).run P w = .ok n w := by
  unfold zhn at h; split at h
  · rename_i i hi; cases h; simp [sizeOf, typeInfo, hi]
  · cases h
theorem zkv {t : TypeId} {z : V} (h : zh8 P t = some z) (w : World) : (zeroValue t).run P w = .ok z w := by
  unfold zh8 at h; split at h
  · rename_i i hi; simp [zeroValue, typeInfo, hi, h]
  · cases h
theorem zva {t : TypeId} {n : Nat} (h : zon P t = some n) (w : World) : ∃ i, (typeInfo t).run P w = .ok i w ∧ i.bytes = n := by
  unfold zon at h; split at h
  · rename_i i hi; cases h; exact ⟨i, by simp [typeInfo, hi], rfl⟩
  · cases h
theorem zbfv {t : TypeId} (h : tk P t = some .one) : (∀ w, (isAgg t).run P w = .ok false w) ∧ ∀ w, (sizeOf t).run P w = .ok 1 w := by
  unfold tk at h
  split at h
  · cases h
  · cases h
  · rename_i d i hn hm hu hi
    split at h
    · rename_i h1
      refine ⟨fun w => ?_, fun w => ?_⟩
      · simp only [isAgg, Sem.run_bind, run_underlying hu, Result.andThen_ok]
        cases d <;> first | rfl | exact absurd rfl (hn _) | exact absurd rfl (hm _ _)
      · simp [sizeOf, typeInfo, hi, h1]
    · cases h
  · cases h
theorem z8l {t : TypeId} {n : Nat} (h : tk P t = some (.agg n)) : (∀ w, (isAgg t).run P w = .ok true w) ∧ ∀ w, (sizeOf t).run P w = .ok n w := by
  unfold tk at h
  split at h
  · rename_i fs i hu hi; cases h
    exact ⟨fun w => by simp [isAgg, run_underlying hu], fun w => by simp [sizeOf, typeInfo, hi]⟩
  · rename_i fs i hu hi; cases h
    exact ⟨fun w => by simp [isAgg, run_underlying hu], fun w => by simp [sizeOf, typeInfo, hi]⟩
  · split at h <;> cases h
  · cases h
theorem z00 {α β : Type} (f : α → Sem β) (a : Array α) (l : List β) (w : World) (h : (a.toList.mapM f).run P w = .ok l w) : (a.mapM f).run P w = .ok l.toArray w := by
  rw [Array.mapM_eq_mapM_toList]
  simp [h]
theorem zbba {pl : List (Nat × Nat)} {e c : Operand → V} (hr : ∀ z, VRel ρ (e z) (c z)) : ∀ (ps : List (Nat × Operand)) (qs : List (Nat × Nat × V)), zxl pl e ps = some qs →
    PRel ρ (pl.toArray[·]?) (ps.map fun p => (p.1, c p.2)) qs
  | [], qs, h => by simp only [zxl] at h; cases h; exact .nil
  | (i, x) :: ps, qs, h => by
    simp only [zxl] at h
    split at h
    · rename_i p l hp hl; cases h
      exact .cons (by simpa using hp) (hr x) (zbba hr ps l hl)
    · cases h
theorem z01 {size : Nat} {e c : Operand → V} (hr : ∀ z, VRel ρ (e z) (c z)) : ∀ (ps : List (Nat × Operand)),
    PRel ρ (fun i => some (i * size, size)) (ps.map fun p => (p.1, c p.2)) (znr size e ps)
  | [] => .nil
  | (_, x) :: ps => .cons rfl (hr x) (z01 hr ps)
theorem zp8 {v : V} (h : ziq v = true) : VRel ρ v v := by
  unfold ziq at h; split at h <;> first | constructor | cases h
theorem z4x {z : V} (h : z.cells.toList.all ziq = true) : LRel ρ z.cells.toList z.cells.toList := by
  generalize z.cells.toList = l at h
  induction l with
  | nil => exact .nil
  | cons x xs ih => simp only [List.all_cons, Bool.and_eq_true] at h; exact .cons (zp8 h.1) (ih h.2)
theorem zbhk {t : TypeId} (ht : tk P t = some .one) {cs : Array V} {off : Nat} {v : V} (h : cs[off]? = some v) (w : World) : (part t cs off).run P w = .ok v w := by
  simp [part, (zbfv ht).1 w, h]
theorem zbhl {t : TypeId} {n : Nat} (ht : tk P t = some (.agg n)) {cs : Array V} {off : Nat} (w : World) : (part t cs off).run P w = .ok (.agg (cs.extract off (off + n))) w := by
  simp [part, (z8l ht).1 w, (z8l ht).2 w]
theorem zbbb {off : Nat} {a a' r : V} (h : fld1 off a = some r) (ha : VRel ρ a a') : ∃ A v, a' = .agg A ∧ A[off]? = some v ∧ VRel ρ r v := by
  unfold fld1 at h; split at h
  · obtain ⟨A, rfl, hA⟩ := ha.agg_inv
    obtain ⟨v, h1, h2⟩ := hA.get off r h
    exact ⟨A, v, rfl, by simpa using h1, h2⟩
  · cases h
theorem zbbc {off n : Nat} {a a' r : V} (h : fldn off n a = some r) (ha : VRel ρ a a') : ∃ A, a' = .agg A ∧ VRel ρ r (.agg (A.extract off (off + n))) := by
  unfold fldn at h; split at h
  · split at h
    · obtain ⟨A, rfl, hA⟩ := ha.agg_inv
      cases h
      refine ⟨A, rfl, .agg' ?_⟩
      have : (A.extract off (off + n)).toList = (A.toList.drop off).take n := by
        rw [Array.toList_extract]; simp [List.extract]
      rw [this]
      simpa using (hA.drop off).take n
    · cases h
  · cases h
theorem zbhm {e c : Operand → V} (hr : ∀ z, VRel ρ (e z) (c z)) (ty : TypeId) {b : Builtin} {args : Array Operand} {ts : Array TypeId} {r : V}
    (h : zbef P e b args.toList ts.toList = some r) : ∃ r', VRel ρ r r' ∧ ∀ w k, (builtin b ts ty k (args.map c)).run P w = .ok (.value r') w := by
  obtain ⟨args⟩ := args
  obtain ⟨ts⟩ := ts
  simp only at h
  unfold zbef at h
  split at h
  · rename_i x t
    have h1 := hr x
    split at h
    · rename_i hu
      split at h
      · rename_i s hx; rw [hx] at h1; cases h
        exact ⟨_, .int _ _, fun w k => by simp [builtin, Builtin.len_, run_underlying hu, h1.string_inv, goInt]⟩
      · cases h
    · rename_i el hu
      split at h
      · rename_i a n cap hx; rw [hx] at h1; cases h
        refine ⟨_, .int _ _, fun w k => ?_⟩
        have : ∃ a' cap', c x = .slice a' n cap' := by
          generalize c x = q at h1
          cases h1 <;> exact ⟨_, _, rfl⟩
        obtain ⟨a', cap', hc⟩ := this
        simp [builtin, Builtin.len_, run_underlying hu, hc, goInt]
      · cases h
    · rename_i n el hu
      cases h
      exact ⟨_, .int _ _, fun w k => by simp [builtin, Builtin.len_, run_underlying hu, goInt]⟩
    · cases h
  · rename_i x t
    have h1 := hr x
    split at h
    · rename_i el hu
      unfold capV at h
      split at h
      · rename_i hx; rw [hx] at h1; cases h
        refine ⟨_, .int _ _, fun w k => ?_⟩
        have hc : c x = .slice none 0 0 := by
          generalize c x = q at h1
          cases h1; rfl
        simp [builtin, Builtin.cap_, run_underlying hu, hc, goInt]
      · cases h
    · cases h
  · rename_i x y
    unfold minV at h
    split at h
    · rename_i k p k' q hx hy
      have h1 := hr x; rw [hx] at h1
      have h2 := hr y; rw [hy] at h2
      cases h
      exact ⟨_, .int _ _, fun w kk => by simp [builtin, Builtin.min_, Builtin.min2, h1.int_inv, h2.int_inv]⟩
    · cases h
  · rename_i x y
    unfold maxV at h
    split at h
    · rename_i k p k' q hx hy
      have h1 := hr x; rw [hx] at h1
      have h2 := hr y; rw [hy] at h2
      cases h
      exact ⟨_, .int _ _, fun w kk => by simp [builtin, Builtin.max_, Builtin.max2, h1.int_inv, h2.int_inv]⟩
    · cases h
  · cases h
set_option maxHeartbeats 1000000 in
theorem zbdo {t : TypeId} {d : TypeDesc} {ok : Bool} {a a' r : V} (hni : ∀ x, d = .interface x → False) (hu : P.underlying t = some d) (h : zbfq t (zh8 P t) ok a = some r) (ha : VRel ρ a a') (xt : TypeId) :
    ∃ r', VRel ρ r r' ∧ ∀ w, (Instr.typeAssert a' xt t ok).run P w = .ok r' w := by
  have hfail : ∀ {z : V}, zh8 P t = some z → ziq z = true → VRel ρ (.tuple #[z, .bool false]) (.tuple #[z, .bool false]) := fun _ hf => .tuple' (.cons (zp8 hf) (.cons (.bool _) .nil))
  unfold zbfq at h
  split at h
  · rename_i t' v
    have hv : ∃ v', a' = .iface t' v' ∧ VRel ρ v v' := by cases ha; exact ⟨_, rfl, by assumption⟩
    obtain ⟨v', rfl, hv⟩ := hv
    split at h
    · rename_i ht
      subst ht
      cases h
      cases ok with
      | true =>
        refine ⟨.tuple #[v', .bool true], .tuple' (.cons hv (.cons (.bool _) .nil)), fun w => ?_⟩
        cases d <;> first | exact absurd rfl (hni _) | simp [Instr.typeAssert, run_underlying hu]
      | false =>
        refine ⟨v', hv, fun w => ?_⟩
        cases d <;> first | exact absurd rfl (hni _) | simp [Instr.typeAssert, run_underlying hu]
    · rename_i ht
      split at h
      · rename_i z hz
        split at h
        · rename_i hf
          cases h
          refine ⟨_, hfail hz hf, fun w => ?_⟩
          cases d <;> first | exact absurd rfl (hni _) | simp [Instr.typeAssert, run_underlying hu, ht, zkv hz w]
        · cases h
      · cases h
  · have hv : a' = .nilIface := by cases ha; rfl
    subst hv
    split at h
    · rename_i z hz
      split at h
      · rename_i hf
        cases h
        refine ⟨_, hfail hz hf, fun w => ?_⟩
        cases d <;> first | exact absurd rfl (hni _) | simp [Instr.typeAssert, run_underlying hu, zkv hz w]
      · cases h
    · cases h
  · cases h
theorem zbbd {e c : Operand → V} (hr : ∀ z, VRel ρ (e z) (c z)) (hcn : ∀ v, c (.const v) = v) (o : Oper) {r : V} (h : z0k P e o.op = some r) :
    ∃ r', VRel ρ r r' ∧ ∀ w, (execOp c o).run P w = .ok (.value r') w := by
  obtain ⟨dst, op, ty, pos, after, guard⟩ := o
  simp only at h
  unfold z0k at h
  split at h
  · cases h; exact ⟨_, hr _, fun w => by simp [execOp]⟩
  · cases h; exact ⟨_, hr _, fun w => by simp [execOp]⟩
  · obtain ⟨t, ht, hv⟩ := zbjw (hr _) (hr _) (hr _) h
    exact ⟨_, hv, fun w => by simp [execOp, ht, asBool]⟩
  · -- build
    rename_i t parts
    split at h
    · rename_i fs z hu hz
      split at h
      · rename_i pl hpl
        split at h
        · rename_i l hl
          unfold AM.build at h
          split at h
          · rename_i hfa
            split at h
            · rename_i cs hcs
              cases h
              obtain ⟨D, hD, hrel⟩ := z4w _ (zbba hr parts.toList l hl) _ z.cells cs (z4x hfa) hcs
              refine ⟨.agg D, .agg' (by simpa using hrel), fun w => ?_⟩
              have hm := z00 (P := P) (fun f : Field => (do pure (f.offset, ← sizeOf f.type) : Sem (Nat × Nat))) fs pl w (zba8 fs.toList pl hpl w)
              simp only [execOp, Instr.build, Sem.run_bind, zkv hz w, Result.andThen_ok, run_underlying hu, hm]
              have hD' : Instr.fill (fun x => pl.toArray[x]?) z.cells (parts.map fun p => (p.1, c p.2)).toList = some D := by simpa using hD
              simp only [hD']
              simp
            · cases h
          · cases h
        · cases h
      · cases h
    · rename_i k el z hu hz
      split at h
      · rename_i n hn
        unfold AM.build at h
        split at h
        · rename_i hfa
          split at h
          · rename_i cs hcs
            cases h
            obtain ⟨D, hD, hrel⟩ := z4w _ (z01 (size := n) hr parts.toList) _ z.cells cs (z4x hfa) hcs
            refine ⟨.agg D, .agg' (by simpa using hrel), fun w => ?_⟩
            simp only [execOp, Instr.build, Sem.run_bind, zkv hz w, Result.andThen_ok, run_underlying hu, zfo hn w]
            have hD' : Instr.fill (fun i => some (i * n, n)) z.cells (parts.map fun p => (p.1, c p.2)).toList = some D := by simpa using hD
            simp only [hD']
            simp
          · cases h
        · cases h
      · cases h
    · cases h
  · -- nilCheck
    rename_i x
    have hx := hr x
    unfold zez at h
    split at h
    · rename_i a q
      cases h
      rw [q] at hx
      refine ⟨c x, hx, fun w => ?_⟩
      simp only [execOp]
      generalize c x = y at hx
      cases hx; rfl
    · rename_i f a b q
      cases h
      rw [q] at hx
      refine ⟨c x, hx, fun w => ?_⟩
      simp only [execOp]
      generalize c x = y at hx
      cases hx; rfl
    · cases h
  · obtain ⟨h1, h2⟩ := z6b (neg := false) hr hcn h default
    exact ⟨r, h2, fun w => by
      have := (z6b (neg := false) hr hcn h w).1
      simp only [execOp]
      rw [Sem.run_bind]
      have e1 : (eqOp false) = BinOp.eql := rfl
      rw [e1] at this; rw [this]; rfl⟩
  · obtain ⟨h1, h2⟩ := z6b (neg := true) hr hcn h default
    exact ⟨r, h2, fun w => by
      have := (z6b (neg := true) hr hcn h w).1
      simp only [execOp]
      rw [Sem.run_bind]
      have e1 : (eqOp true) = BinOp.neq := rfl
      rw [e1] at this; rw [this]; rfl⟩
  · -- other binary operations
    rename_i op t x y yt hn1 hn2
    obtain ⟨e1, e2⟩ := zba5 h (hr x) (hr y)
    refine ⟨r, zbft h, fun w => ?_⟩
    have hg : (eqGuard op t x y (e x) (e y)).run P w = .ok () w := by cases op <;> first | rfl | exact absurd rfl hn1 | exact absurd rfl hn2
    simp only [execOp, Sem.run_bind, e1, e2, hg, Result.andThen_ok, z8i t h w, Sem.run_pure]
  · rename_i op t x
    refine ⟨r, (zbhh (P := P) h (hr x) (default : World)).2 , fun w => by simp [execOp, (zbhh (P := P) h (hr x) w).1]⟩
  · -- conversions
    rename_i src dst x
    split at h
    · rename_i k1 k2 hs hd
      obtain ⟨j, n, hc, rfl⟩ := zbmy h (hr x)
      exact ⟨_, .int _ _, fun w => by simp [execOp, convert, run_underlying hs, run_underlying hd, hc, Conv.intToInt]⟩
    · rename_i hs hd
      split at h
      · rename_i s hq
        cases h
        have := hr x; rw [hq] at this
        exact ⟨_, .string s, fun w => by simp [execOp, convert, run_underlying hs, run_underlying hd, this.string_inv]⟩
      · cases h
    · cases h
  · -- interfaces
    rename_i t x
    split at h
    · cases h
    · rename_i d hni hu
      cases h
      refine ⟨.iface t (c x), .iface t _ _ (hr x), fun w => ?_⟩
      simp only [execOp, Instr.makeInterface, Sem.run_bind, run_underlying hu, Result.andThen_ok]
      cases d <;> first | rfl | exact absurd rfl (hni _)
    · cases h
  · -- what an interface holds
    rename_i x xt t ok
    split at h
    · cases h
    · rename_i d hni hu
      obtain ⟨r', h1, h2⟩ := zbdo (P := P) (fun x hx => hni x hx) hu h (hr x) xt
      exact ⟨r', h1, fun w => by simp [execOp, h2 w]⟩
    · cases h
  · -- functions
    rename_i fn first captured
    cases h
    exact ⟨.func fn (first.map c) (captured.map c), .func _ _ _ _ _ (by simp) (by simp) (fun i h1 h2 => by simpa using hr _) (fun i h1 h2 => by simpa using hr _),
      fun w => by simp [execOp, Instr.makeFunc]⟩
  · -- slices
    rename_i t x lo hi
    split at h
    · rename_i hu
      refine ⟨r, (zba9 (P := P) hu (hr x) (zwx hr lo) (zwx hr hi) h default).2, fun w => ?_⟩
      simp [execOp, (zba9 (P := P) hu (hr x) (zwx hr lo) (zwx hr hi) h w).1]
    · rename_i el hu
      split at h
      · rename_i n hn
        obtain ⟨r', h1, h2⟩ := zbjx hu hn (hr x) (zwx hr lo) (zwx hr hi) h
        exact ⟨r', h1, fun w => by simp [execOp, h2 w]⟩
      · cases h
    · rename_i k el hu
      split at h
      · rename_i n hn
        obtain ⟨r', h1, h2⟩ := zbjy hu hn (hr x) (zwx hr lo) (zwx hr hi) h
        exact ⟨r', h1, fun w => by simp [execOp, h2 w]⟩
      · cases h
    · cases h
  · -- a field's address
    rename_i s x f
    split at h
    · rename_i fs hu
      split at h
      · rename_i fd hfd
        split at h
        · rename_i n hn
          unfold z6 at h
          split at h
          · rename_i b o hq
            cases h
            have := hr x; rw [hq] at this
            obtain ⟨L, hL, hc⟩ := this.ptr_inv
            refine ⟨_, .ptr b (o + fd.offset) L hL, fun w => ?_⟩
            simp only [execOp, Instr.fieldAt, Sem.run_bind, run_underlying hu, Result.andThen_ok, hfd, hc, Instr.sureAddr, Sem.run_pure, fieldPlace, zfo hn w]
            simp [Addr.add]
            split <;> simp_all
          · cases h
        · cases h
      · cases h
    · cases h
  · -- a field
    rename_i t x f
    split at h
    · rename_i fs hu
      split at h
      · rename_i fd hfd
        split at h
        · rename_i hk
          obtain ⟨A, v, hA, hv, hrel⟩ := zbbb h (hr x)
          exact ⟨v, hrel, fun w => by simp [execOp, Instr.field, run_underlying hu, hfd, hA, asAgg, zbhk hk hv w]⟩
        · rename_i n hk
          obtain ⟨A, hA, hrel⟩ := zbbc h (hr x)
          exact ⟨_, hrel, fun w => by simp [execOp, Instr.field, run_underlying hu, hfd, hA, asAgg, zbhl hk w]⟩
        · cases h
      · cases h
    · cases h
  · -- an element's address
    rename_i t x i
    split at h
    · rename_i el hu
      split at h
      · rename_i n hn
        unfold zb5 at h
        split at h
        · rename_i b o u len cap k q hx hi
          split at h
          · rename_i hb
            cases h
            have h1 := hr x; rw [hx] at h1
            have h2 := hr i; rw [hi] at h2
            obtain ⟨L, co, ccap, ca, hL, hc, ho, hlen, hcap, _, hca, _⟩ := h1.slc_inv
            have hco : co = L.off + o := by rcases ho with ho | ho <;> omega
            obtain rfl : ca = ⟨L.blk, co, none⟩ := hca.resolve_right (by omega)
            subst hco
            refine ⟨_, .ptr b (o + q.toNat * n) L hL, fun w => ?_⟩
            simp only [execOp, Instr.indexAt, Sem.run_bind, run_underlying hu, Result.andThen_ok, hc, h2.int_inv, asIntOf, Sem.run_pure, zfo hn w]
            simp only [hb, and_self, if_true, Sem.run_bind, zfo hn w, Result.andThen_ok, Sem.run_pure]
            simp [Addr.add]
            split <;> simp_all [Nat.add_assoc]
          · cases h
        · cases h
      · cases h
    · rename_i k el hu
      split at h
      · rename_i n hn
        unfold zxj at h
        split at h
        · rename_i b o kk q hx hi
          split at h
          · rename_i hb
            cases h
            have h1 := hr x; rw [hx] at h1
            have h2 := hr i; rw [hi] at h2
            obtain ⟨L, hL, hc⟩ := h1.ptr_inv
            refine ⟨_, .ptr b (o + q.toNat * n) L hL, fun w => ?_⟩
            simp only [execOp, Instr.indexAt, Sem.run_bind, run_underlying hu, Result.andThen_ok, hc, h2.int_inv, asIntOf, Sem.run_pure, Instr.sureAddr]
            simp only [hb, and_self, if_true, Sem.run_bind, zfo hn w, Result.andThen_ok, Sem.run_pure]
            simp [Addr.add]
            split <;> simp_all [Nat.add_assoc]
          · cases h
        · cases h
      · cases h
    · cases h
  · -- an element
    rename_i t x i
    split at h
    · rename_i hu
      unfold zr7 at h
      split at h
      · rename_i s k q hx hi
        split at h
        · rename_i h0
          split at h
          · rename_i b hb
            cases h
            have h1 := hr x; rw [hx] at h1
            have h2 := hr i; rw [hi] at h2
            exact ⟨_, .int _ _, fun w => by simp [execOp, Instr.index, run_underlying hu, h1.string_inv, h2.int_inv, asIntOf, h0, hb]⟩
          · cases h
        · cases h
      · cases h
    · rename_i k el hu
      split at h
      · rename_i hk
        unfold zbsk at h
        split at h
        · rename_i cs kk q hx hi
          split at h
          · rename_i hb
            have h2 := hr i; rw [hi] at h2
            obtain ⟨A, v, hA, hv, hrel⟩ := zbbb (off := q.toNat) (by unfold fld1; rw [hx]; exact h) (hr x)
            refine ⟨v, hrel, fun w => ?_⟩
            simp only [execOp, Instr.index, Sem.run_bind, run_underlying hu, Result.andThen_ok, h2.int_inv, asIntOf, Sem.run_pure, hA]
            simp only [hb, and_self, if_true, Sem.run_bind, (zbfv hk).2 w, Result.andThen_ok, Nat.mul_one, zbhk hk hv w, Sem.run_pure]
          · cases h
        · cases h
      · rename_i n hk
        unfold zbsl at h
        split at h
        · rename_i kk q hi
          split at h
          · rename_i hb
            have h2 := hr i; rw [hi] at h2
            obtain ⟨A, hA, hrel⟩ := zbbc h (hr x)
            refine ⟨_, hrel, fun w => ?_⟩
            simp only [execOp, Instr.index, Sem.run_bind, run_underlying hu, Result.andThen_ok, h2.int_inv, asIntOf, Sem.run_pure, hA]
            simp only [hb, and_self, if_true, Sem.run_bind, (z8l hk).2 w, Result.andThen_ok, zbhl hk w, Sem.run_pure]
          · cases h
        · cases h
      · cases h
    · cases h
  · -- a part of a tuple
    rename_i t i
    unfold ext at h
    split at h
    · rename_i vs hx
      have h1 := hr t; rw [hx] at h1
      have h2 : ∃ x', c t = .tuple x' ∧ LRel ρ vs.toList x'.toList := by
        generalize c t = q at h1
        cases h1 with
        | undef v => simp at h
        | tuple _ x' h2 h3 => exact ⟨_, rfl, arel h2 h3⟩
      obtain ⟨x', hc, hl⟩ := h2
      obtain ⟨v, hv, hrel⟩ := hl.get i r h
      simp only [Array.getElem?_toList] at hv
      exact ⟨v, hrel, fun w => by simp [execOp, Instr.extract, hc, hv]⟩
    · cases h
  · -- builtins
    rename_i cl
    obtain ⟨callee, args, argTypes⟩ := cl
    simp only at h
    split at h
    · rename_i b
      obtain ⟨r', h1, h2⟩ := zbhm hr ty h
      refine ⟨r', h1, fun w => ?_⟩
      simp only [execOp, resolve, Sem.run_bind, Sem.run_pure, Result.andThen_ok, invoke]
      exact h2 w _
    · cases h
  · cases h
end Go.AM

/- Operations that read memory, and the words for those that make and write it. -/
namespace Go.AM
open Go.RowKit (Below)
variable {P : Program} {N : Nat} {w₀ : World} {ρ : Ren} {H : Heap} {w : World}
theorem zbaw {b o : Nat} {C : Array V} {e : TypeId} {f : Nat × Nat} (h : w.heap[b]? = some (.cells C e f)) : w.cell? ⟨b, o, none⟩ = C[o]? := by
  simp [World.cell?, h]
theorem Rel.cells (h : Rel N w₀ ρ H w) {b : Nat} {rw_ : Bool} {cs : List V} (hb : H.get b = some (.cells rw_ cs)) {L : Loc} (hL : ρ b = some L) :
    ∃ C e f, w.heap[L.blk]? = some (.cells C e f) ∧ C.size = L.size ∧ (rw_ = true → N ≤ L.blk ∧ ∀ i, i < C.size → ¬ (f.1 ≤ i ∧ i < f.2)) ∧ L.off + cs.length ≤ C.size ∧ LRel ρ cs ((C.toList.drop L.off).take cs.length) := by
  obtain ⟨K, hK, hr⟩ := h.blk b _ hb
  rw [hL] at hK; cases hK
  obtain ⟨C, e, f, h1, h2, h3, h4⟩ := hr
  exact ⟨C, e, f, h1, h2, h3.1, h4⟩
theorem Rel.whole (h : Rel N w₀ ρ H w) {b : Nat} {cs : List V} (hb : H.get b = some (.cells false cs)) {s : Nat} (hL : ρ b = some ⟨b, 0, s⟩) :
    ∃ C e f, w.heap[b]? = some (.cells C e f) ∧ LRel ρ cs C.toList := by
  obtain ⟨K, hK, hr⟩ := h.blk b _ hb
  rw [hL] at hK; cases hK
  obtain ⟨C, e, f, h1, h2, h3, h4, h5⟩ := hr
  have hz := h3.2 rfl
  simp only [Nat.zero_add] at hz
  refine ⟨C, e, f, h1, ?_⟩
  have : (C.toList.drop 0).take cs.length = C.toList := by rw [List.drop_zero, hz]; exact List.take_length
  rwa [this] at h5
theorem Rel.cell (h : Rel N w₀ ρ H w) {b o : Nat} {v : V} (hc : H.cell b o = some v) {L : Loc} (hL : ρ b = some L) : ∃ v', w.cell? ⟨L.blk, L.off + o, none⟩ = some v' ∧ VRel ρ v v' := by
  unfold Heap.cell at hc
  split at hc
  · rename_i rw_ cs hb
    obtain ⟨C, e, f, h1, h2, h3, h4, h5⟩ := h.cells hb hL
    obtain ⟨v', hv', hr⟩ := h5.get o v hc
    have ho : o < cs.length := by
      rcases Nat.lt_or_ge o cs.length with hl | hl
      · exact hl
      · rw [List.getElem?_eq_none hl] at hc; cases hc
    refine ⟨v', ?_, hr⟩
    rw [zbaw h1]
    simpa [List.getElem?_take, ho, List.getElem?_drop] using hv'
  · cases hc
theorem Rel.cellsAt (h : Rel N w₀ ρ H w) {b o n : Nat} {l : List V} (hc : AM.cellsAt H b o n = some l) {L : Loc} (hL : ρ b = some L) :
    l.length = n ∧ ∃ l', LRel ρ l l' ∧ ∀ j v, l'[j]? = some v → w.cell? ⟨L.blk, L.off + o + j, none⟩ = some v := by
  unfold AM.cellsAt at hc
  split at hc
  · rename_i rw_ cs hb
    split at hc
    · rename_i hle
      cases hc
      obtain ⟨C, e, f, h1, h2, h3, h4, h5⟩ := h.cells hb hL
      refine ⟨by simp; omega, _, (h5.drop o).take n, fun j v hj => ?_⟩
      rw [zbaw h1]
      simp only [List.getElem?_take, List.getElem?_drop] at hj
      split at hj
      · split at hj
        · rw [show L.off + o + j = L.off + (o + j) by omega]; simpa using hj
        · cases hj
      · cases hj
    · cases hc
  · cases hc
theorem zbjz (b o n : Nat) : (⟨b, o, none⟩ : Addr).add n = ⟨b, o + n, none⟩ := by
  unfold Addr.add; split
  · simp_all
  · rfl
theorem zkw {b o : Nat} {l : List V} (h : ∀ j v, l[j]? = some v → w.cell? ⟨b, o + j, none⟩ = some v) : (loadCells ⟨b, o, none⟩ l.length).run P w = .ok l.toArray w :=
  run_loadCells_list w ⟨b, o, none⟩ l fun j v hj => by rw [zbjz]; exact h j v hj
theorem zbj0 {v v' : V} {b : UInt8} (h : zbav v = some b) (hv : VRel ρ v v') : ∃ n : Int, v' = .int .u8 n ∧ b = UInt8.ofNat n.toNat := by
  unfold zbav at h; split at h
  · cases h; exact ⟨_, hv.int_inv, rfl⟩
  · cases h
theorem z9p : ∀ {l l' : List V} {bs : List UInt8}, zqt l = some bs → LRel ρ l l' → ∃ ns : List Int, l' = ns.map (Value.int .u8) ∧ bs = ns.map fun n => UInt8.ofNat n.toNat
  | [], _, bs, h, g => by cases g; simp only [zqt] at h; cases h; exact ⟨[], rfl, rfl⟩
  | v :: vs, _, bs, h, g => by
    cases g with
    | cons hv hvs =>
      simp only [zqt] at h
      split at h
      · rename_i b hb
        split at h
        · rename_i l hl
          cases h
          obtain ⟨n, rfl, rfl⟩ := zbj0 hb hv
          obtain ⟨ns, rfl, rfl⟩ := z9p hl hvs
          exact ⟨n :: ns, rfl, rfl⟩
        · cases h
      · cases h
theorem zbbe : ∀ (ns : List Int) (s : ByteArray), ns.foldl (fun r n => r.push (UInt8.ofNat n.toNat)) s = ⟨s.data ++ (ns.map fun n => UInt8.ofNat n.toNat).toArray⟩
  | [], s => by simp
  | n :: ns, s => by
    rw [List.foldl_cons, zbbe ns]
    congr 1
    apply Array.ext'
    simp [ByteArray.push]
theorem zbm0 (h : Rel N w₀ ρ H w) {a a' r : V} {H' : Heap} (hb : b2s a H = some (r, H')) (ha : VRel ρ a a') : H' = H ∧ VRel ρ r r ∧ (Conv.bytesToString a').run P w = .ok r w := by
  unfold b2s at hb
  split at hb
  · cases hb
    obtain ⟨_, _, rfl⟩ := ha.snil_inv
    exact ⟨rfl, .string _, by simp [Conv.bytesToString]⟩
  · rename_i b o u len cap
    split at hb
    · rename_i l hl
      split at hb
      · rename_i bs hbs
        cases hb
        obtain ⟨L, co, ccap, ca, hL, rfl, ho, hlen, hcap, _, hca, _⟩ := ha.slc_inv
        obtain ⟨hn, l', hrel, hcell⟩ := h.cellsAt hl hL
        obtain ⟨ns, rfl, rfl⟩ := z9p hbs hrel
        refine ⟨rfl, .string _, ?_⟩
        have hl2 : ns.length = len := by have := hrel.length; simp at this; omega
        have hrun : (loadCells ca len).run P w = .ok (ns.map (Value.int .u8)).toArray w := by
          rcases hca with rfl | q
          rotate_left
          · have h0 : len = 0 := by omega
            have : ns = [] := List.eq_nil_of_length_eq_zero (by omega)
            rw [this, h0]; rfl
          rcases ho with ho | ho
          · subst ho
            have := zkw (P := P) (b := L.blk) (o := L.off + o) hcell
            simpa [hl2] using this
          · have h0 : len = 0 := by omega
            have : ns = [] := List.eq_nil_of_length_eq_zero (by omega)
            rw [this, h0]; rfl
        rw [run_bytesToString w _ len ccap ns hrun, zbbe]
        simp
      · cases hb
    · cases hb
  · cases hb
theorem zbej {fk : FK} {kt : TypeId} (hf : fkT P kt = some fk) {a b a' b' : V} {r : Bool} (h : zu3 (.one fk) a b = some r) (ha : VRel ρ a a') (hb : VRel ρ b b') (d : TypeDesc) (hd : P.underlying kt = some d) :
    Instr.sameNow d a' b' = some r := by
  simp only [zu3] at h
  obtain ⟨rfl, rfl⟩ := zym h ha hb
  cases fk
  · have := zbsm hf; rw [hd] at this; cases this
    cases a' <;> cases b' <;> simp only [eqK] at h <;> first | (cases h; done) | skip
    simpa [Instr.sameNow] using h
  · obtain ⟨k, this⟩ := zbsn hf; rw [hd] at this; cases this
    cases a' <;> cases b' <;> simp only [eqK] at h <;> first | (cases h; done) | skip
    simpa [Instr.sameNow] using h
  · have := zbso hf; rw [hd] at this; cases this
    cases a' <;> cases b' <;> simp only [eqK] at h <;> first | (cases h; done) | skip
    simp only [Instr.sameNow, beq_toListBytes, zsk]; exact h
theorem z4y {fk : FK} {kt : TypeId} (hf : fkT P kt = some fk) (d : TypeDesc) (hd : P.underlying kt = some d) {k k' : V} (hk : VRel ρ k k') : ∀ (es : List (V × V)) (E : List MapEntry) (i : Nat) (r : Option Nat),
    LRel ρ (es.map (·.1)) (E.map (·.key)) → zk9 (.one fk) k es = some r → Instr.findNow d k' E i = some (r.bind fun j => (E[j]?).map fun e => (i + j, e.val))
  | [], E, i, r, hr, h => by
    cases E with
    | nil => simp only [zk9] at h; cases h; rfl
    | cons e E => have := hr.length; simp at this
  | x :: es, E, i, r, hr, h => by
    cases E with
    | nil => have := hr.length; simp at this
    | cons e E =>
      cases hr with
      | cons h1 h2 =>
        simp only [zk9] at h
        split at h
        · rename_i hq; cases h
          simp [Instr.findNow, zbej hf hq hk h1 d hd]
        · rename_i hq
          simp only [Instr.findNow, zbej hf hq hk h1 d hd]
          split at h
          · rename_i j hj; cases h
            rw [z4y hf d hd hk es E (i + 1) (some j) h2 hj]
            simp [Nat.add_assoc, Nat.add_comm 1 j]
          · rename_i hj; cases h
            rw [z4y hf d hd hk es E (i + 1) none h2 hj]; rfl
          · cases h
        · cases h
theorem zxn {ks : List FK} {kt : TypeId} (hf : zba1 P kt = some ks) {k k' : V} (hk : VRel ρ k k') : ∀ (es : List (V × V)) (E : List MapEntry) (i : Nat) (r : Option Nat),
    LRel ρ (es.map (·.1)) (E.map (·.key)) → zk9 (.agg ks) k es = some r → ∀ w, (Instr.findAsking kt k' E i).run P w = .ok (r.bind fun j => (E[j]?).map fun e => (i + j, e.val)) w
  | [], E, i, r, hr, h => by
    intro w
    cases E with
    | nil => simp only [zk9] at h; cases h; rfl
    | cons e E => have := hr.length; simp at this
  | x :: es, E, i, r, hr, h => by
    intro w
    cases E with
    | nil => have := hr.length; simp at this
    | cons e E =>
      cases hr with
      | cons h1 h2 =>
        simp only [zk9] at h
        split at h
        · rename_i hq; cases h
          simp only [zu3] at hq
          obtain ⟨A, B, _, _, hrun⟩ := z8k hf hq hk h1 w 9998
          have hrun' : (Op.equal kt k' e.key).run P w = .ok true w := hrun
          simp [Instr.findAsking, hrun']
        · rename_i hq
          simp only [zu3] at hq
          obtain ⟨A, B, _, _, hrun⟩ := z8k hf hq hk h1 w 9998
          have hrun' : (Op.equal kt k' e.key).run P w = .ok false w := hrun
          simp only [Instr.findAsking, Sem.run_bind, hrun', Result.andThen_ok]
          simp only [Bool.false_eq_true, if_false]
          split at h
          · rename_i j hj; cases h
            rw [zxn hf hk es E (i + 1) (some j) h2 hj w]
            simp [Nat.add_assoc, Nat.add_comm 1 j]
          · rename_i hj; cases h
            rw [zxn hf hk es E (i + 1) none h2 hj w]; rfl
          · cases h
        · cases h
theorem zpq {kk : KK} {kt : TypeId} (hf : z28 P kt = some kk) {k k' : V} (hk : VRel ρ k k') (es : List (V × V)) (E : List MapEntry) (r : Option Nat)
    (hr : LRel ρ (es.map (·.1)) (E.map (·.key))) (h : zk9 kk k es = some r) (w : World) : (Instr.findKey kt k' E).run P w = .ok (r.bind fun j => (E[j]?).map fun e => (j, e.val)) w := by
  unfold z28 at hf
  split at hf
  · rename_i fk hfk
    cases hf
    have hd : ∃ d, P.underlying kt = some d := by unfold fkT at hfk; split at hfk <;> first | exact ⟨_, by assumption⟩ | cases hfk
    obtain ⟨d, hd⟩ := hd
    simp [Instr.findKey, run_underlying hd, z4y hfk d hd hk es E 0 r hr h]
  · split at hf
    · rename_i ks hks
      cases hf
      obtain ⟨fs, hu, _⟩ := z59 hks
      simp only [Instr.findKey, Sem.run_bind, run_underlying hu, Result.andThen_ok]
      cases E with
      | nil =>
        cases es with
        | nil => simp only [zk9] at h; cases h; rfl
        | cons x es => have := hr.length; simp at this
      | cons e E =>
        have : Instr.findNow (.struct fs) k' (e :: E) 0 = none := by simp [Instr.findNow, Instr.sameNow]
        simp only [this]
        have := zxn hks hk es (e :: E) 0 r hr h w
        simpa using this
    · cases hf
theorem zbhn {α : Type} (g : α → PUnit → Sem (ForInStep PUnit)) (w : World) : ∀ (fs : List α), (∀ f ∈ fs, (g f PUnit.unit).run P w = .ok (.yield PUnit.unit) w) → (forIn fs PUnit.unit g).run P w = .ok PUnit.unit w
  | [], _ => by simp
  | f :: fs, h => by
    simp only [List.forIn_cons, Sem.run_bind, h f (by simp), Result.andThen_ok]
    exact zbhn g w fs fun x hx => h x (by simp [hx])
theorem z6d (A : Array V) : ∀ (fs : List Field) (n : Nat) (ks : List FK), zu5 P n fs = some ks → n + fs.length ≤ A.size →
    ∀ f ∈ fs, f.name ≠ "_" ∧ (∃ k, fkT P f.type = some k) ∧ f.offset < A.size
  | [], n, ks, _, _ => by simp
  | f :: fs, n, ks, hf, hl => by
    simp only [zu5] at hf
    split at hf
    · rename_i k ks' hk hks
      split at hf
      · rename_i hc
        simp only [Bool.and_eq_true, bne_iff_ne, ne_eq, beq_iff_eq] at hc
        obtain ⟨hnm, hoff⟩ := hc
        intro x hx
        rcases List.mem_cons.1 hx with rfl | hx
        · exact ⟨hnm, ⟨k, hk⟩, by simp at hl; omega⟩
        · exact z6d A fs (n + 1) ks' hks (by simp at hl; omega) x hx
      · cases hf
    · cases hf
theorem zbbf {k : FK} {t : TypeId} (hk : fkT P t = some k) (em : Bool) (d : Nat) (v : V) (w : World) : (Instr.checkKey em (d + 1) t v).run P w = .ok () w := by
  have hd : ∃ dd, P.underlying t = some dd ∧ (dd = .bool ∨ (∃ q, dd = .int q) ∨ dd = .string) := by
    unfold fkT at hk; split at hk <;> first | exact ⟨_, by assumption, by simp⟩ | cases hk
  obtain ⟨dd, hd, hdd⟩ := hd
  rcases hdd with rfl | ⟨q, rfl⟩ | rfl <;> simp [Instr.checkKey, run_underlying hd]
theorem z3d : ∀ (fs : List Field) (n : Nat) (ks : List FK), zu5 P n fs = some ks → ks.length = fs.length
  | [], n, ks, h => by simp only [zu5] at h; cases h; rfl
  | f :: fs, n, ks, hf => by
    simp only [zu5] at hf
    split at hf
    · rename_i k ks' hk hks
      split at hf
      · cases hf; simp [z3d fs (n + 1) ks' hks]
      · cases hf
    · cases hf
theorem zbj1 {kt : TypeId} {ks : List FK} (hks : zba1 P kt = some ks) {A : Array V} (hA : A.size = ks.length) (em : Bool) (d : Nat) (w : World) : (Instr.checkKey em (d + 1 + 1) kt (.agg A)).run P w = .ok () w := by
  obtain ⟨fs, hu, _, _, h3⟩ := z59 hks
  have hl : A.size = fs.size := by have := z3d _ _ _ h3; simp at *; omega
  rw [Instr.checkKey]
  simp only [Sem.run_bind, run_underlying hu, Result.andThen_ok]
  rw [← Array.forIn_toList]
  rw [zbhn (P := P) _ w fs.toList ?_]
  · rfl
  · intro f hf
    obtain ⟨h1, ⟨k, h2⟩, h4⟩ := z6d A fs.toList 0 ks h3 (by simp; omega) f hf
    have hp : (part f.type A f.offset).run P w = .ok A[f.offset] w := by simp [part, z8j h2 w, h4]
    simp [h1, hp, zbbf h2 em d]
theorem z02 {kk : KK} {kt : TypeId} (hf : z28 P kt = some kk) {k k' : V} (hk : VRel ρ k k') (hfit : zph kk k = true) (em : Bool) (w : World) : (Instr.checkKey em 10000 kt k').run P w = .ok () w := by
  unfold z28 at hf
  split at hf
  · rename_i fk hfk; exact zbbf hfk em 9999 k' w
  · split at hf
    · rename_i ks hks
      cases hf
      cases k <;> simp only [zph] at hfit <;> first | (cases hfit; done) | skip
      obtain ⟨A, rfl, hA⟩ := hk.agg_inv
      exact zbj1 hks (by have := hA.length; simp at *; omega) em 9998 w
    · cases hf
theorem z6e (kk : KK) (k : V) : ∀ (es : List (V × V)) (i : Nat), zk9 kk k es = some (some i) → i < es.length
  | [], i, h => by simp [zk9] at h
  | e :: es, i, h => by
    simp only [zk9] at h
    split at h
    · cases h; simp
    · split at h
      · rename_i j hj; cases h; have := z6e kk k es j hj; simp; omega
      · cases h
      · cases h
    · cases h
theorem Rel.map (h : Rel N w₀ ρ H w) {b : Nat} {rw_ : Bool} {es : List (V × V)} (hb : H.get b = some (.map rw_ es)) {L : Loc} (hL : ρ b = some L) :
    ∃ E clk, w.heap[L.blk]? = some (.map E clk) ∧ (rw_ = true → N ≤ L.blk ∧ Born E clk) ∧ L.off = 0 ∧ LRel ρ (es.map (·.1)) (E.toList.map (·.key)) ∧ LRel ρ (es.map (·.2)) (E.toList.map (·.val)) := by
  obtain ⟨K, hK, h0, E, clk, h1, h2, h3, h4⟩ := h.blk b _ hb
  rw [hL] at hK; cases hK
  exact ⟨E, clk, h1, h2, h0, h3, h4⟩
theorem zi6 {r : Nat} {E : Array MapEntry} {clk : Nat} (h : w.heap[r]? = some (.map E clk)) : (getObj r).run P w = .ok (.map E clk) w := by
  simp [getObj, Sem.run, h]
theorem z9q (h : Rel N w₀ ρ H w) {m m' : V} {es : List (V × V)} (he : z2p H m = some es) (hm : VRel ρ m m') :
    (m' = .map none ∧ es = []) ∨ ∃ r E clk, m' = .map (some r) ∧ w.heap[r]? = some (.map E clk) ∧ LRel ρ (es.map (·.1)) (E.toList.map (·.key)) ∧ LRel ρ (es.map (·.2)) (E.toList.map (·.val)) := by
  unfold z2p at he
  split at he
  · cases he; cases hm; exact .inl ⟨rfl, rfl⟩
  · split at he
    · rename_i b rw_ es2 hb
      cases he
      cases hm
      rename_i L hL
      obtain ⟨E, clk, h1, _, _, h2, h3⟩ := h.map hb hL
      exact .inr ⟨_, E, clk, rfl, h1, h2, h3⟩
    · cases he
  · cases he
theorem zbfw (h : Rel N w₀ ρ H w) {kk : KK} {zero : V} {ok : Bool} {m k m' k' r : V} {H' : Heap} {t kt et : TypeId} (hu : P.underlying t = some (.map kt et)) (hz : zh8 P et = some zero) (hf : z28 P kt = some kk)
    (hl : lookup kk zero ok m k H = some (r, H')) (hm : VRel ρ m m') (hk : VRel ρ k k') : H' = H ∧ ∃ r', VRel ρ r r' ∧ (Instr.lookup t m' k' ok).run P w = .ok r' w := by
  unfold lookup at hl
  split at hl
  · rename_i hcond
    simp only [Bool.and_eq_true] at hcond
    split at hl
    · rename_i es hes
      have hck := fun em => z02 hf hk hcond.1 em w
      rcases z9q h hes hm with ⟨rfl, rfl⟩ | ⟨q, E, clk, rfl, hq, h1, h2⟩
      · simp only [zk9] at hl
        cases hl
        have hfk := zpq hf hk [] [] none .nil (by simp [zk9]) w
        refine ⟨rfl, if ok then .tuple #[zero, .bool false] else zero, ?_, ?_⟩
        · split
          · exact .tuple' (.cons (zp8 hcond.2) (.cons (.bool _) .nil))
          · exact zp8 hcond.2
        · simp [Instr.lookup, run_underlying hu, hck, hfk, zkv hz w]
      · split at hl
        · rename_i i hi
          split at hl
          · rename_i e he
            cases hl
            have hfk := zpq hf hk es E.toList (some i) h1 hi w
            have hlt := z6e kk k es i hi
            have hlE : i < E.toList.length := by have := h1.length; simp at this; simp; omega
            obtain ⟨v', hv', hrel⟩ := h2.get i e.2 (by simp [he])
            have hv2 : E.toList[i].val = v' := by
              rw [List.getElem?_map, List.getElem?_eq_getElem hlE] at hv'
              simpa using hv'
            refine ⟨rfl, if ok then .tuple #[v', .bool true] else v', ?_, ?_⟩
            · split
              · exact .tuple' (.cons hrel (.cons (.bool _) .nil))
              · exact hrel
            · have : (some i).bind (fun j => (E.toList[j]?).map fun e => (j, e.val)) = some (i, v') := by
                rw [← hv2, Option.bind_some, List.getElem?_eq_getElem hlE]; rfl
              rw [this] at hfk
              simp [Instr.lookup, run_underlying hu, zi6 hq, hck, hfk]
          · cases hl
        · rename_i hi
          cases hl
          have hfk := zpq hf hk es E.toList none h1 hi w
          refine ⟨rfl, if ok then .tuple #[zero, .bool false] else zero, ?_, ?_⟩
          · split
            · exact .tuple' (.cons (zp8 hcond.2) (.cons (.bool _) .nil))
            · exact zp8 hcond.2
          · simp [Instr.lookup, run_underlying hu, zi6 hq, hck, hfk, zkv hz w]
        · cases hl
    · cases hl
  · cases hl
theorem zbj2 (h : Rel N w₀ ρ H w) {m m' r : V} {H' : Heap} {t ty kt et : TypeId} (hu : P.underlying t = some (.map kt et)) (hl : lenM m H = some (r, H')) (hm : VRel ρ m m') :
    H' = H ∧ VRel ρ r r ∧ (Builtin.len_ #[t] ty #[m']).run P w = .ok r w := by
  unfold lenM at hl
  split at hl
  · rename_i es hes
    cases hl
    refine ⟨rfl, .int _ _, ?_⟩
    rcases z9q h hes hm with ⟨rfl, rfl⟩ | ⟨q, E, clk, rfl, hq, h1, h2⟩
    · simp [Builtin.len_, run_underlying hu, goInt]
    · have : es.length = E.size := by have := h1.length; simpa using this
      simp [Builtin.len_, run_underlying hu, zi6 hq, goInt, this]
  · cases hl
theorem zbek (h : Rel N w₀ ρ H w) {p p' r : V} {H' : Heap} {t : TypeId} (ht : tk P t = some .one) (hl : ld1 p H = some (r, H')) (hp : VRel ρ p p') :
    H' = H ∧ ∃ r', VRel ρ r r' ∧ (Instr.loadAt t p').run P w = .ok r' w := by
  unfold ld1 at hl
  split at hl
  · rename_i b o
    split at hl
    · rename_i v hv
      cases hl
      obtain ⟨L, hL, rfl⟩ := hp.ptr_inv
      obtain ⟨v', hv', hrel⟩ := h.cell hv hL
      exact ⟨rfl, v', hrel, by simp [Instr.loadAt, Instr.sureAddr, loadVar, (zbfv ht).1 w, hv']⟩
    · cases hl
  · cases hl
theorem zbel (h : Rel N w₀ ρ H w) {p p' r : V} {H' : Heap} {t : TypeId} {n : Nat} (ht : tk P t = some (.agg n)) (hl : ldn n p H = some (r, H')) (hp : VRel ρ p p') :
    H' = H ∧ ∃ r', VRel ρ r r' ∧ (Instr.loadAt t p').run P w = .ok r' w := by
  unfold ldn at hl
  split at hl
  · rename_i b o
    split at hl
    · rename_i l hc
      cases hl
      obtain ⟨L, hL, rfl⟩ := hp.ptr_inv
      obtain ⟨hn, l', hrel, hcell⟩ := h.cellsAt hc hL
      have hl2 : l'.length = n := by rw [← hrel.length]; exact hn
      have hrun := zkw (P := P) hcell
      rw [hl2] at hrun
      exact ⟨rfl, .agg l'.toArray, .agg' (by simpa using hrel), by simp [Instr.loadAt, Instr.sureAddr, loadVar, (z8l ht).1 w, (z8l ht).2 w, hrun]⟩
    · cases hl
  · cases hl
theorem zo {α : Type} {H H' : Heap} {r : α} (h : (fail : M α) H = some (r, H')) : False := by simp [fail] at h
theorem zbbg (h : Rel N w₀ ρ H w) {e c : Operand → V} (hr : ∀ z, VRel ρ (e z) (c z)) (o : Oper) {r : V} {H' : Heap} (hl : z9n P e o.op H = some (r, H')) :
    H' = H ∧ ∃ r', VRel ρ r r' ∧ (execOp c o).run P w = .ok (.value r') w := by
  obtain ⟨dst, op, ty, pos, after, guard⟩ := o
  simp only at hl
  cases op <;> simp only [z9n] at hl <;> first | exact (zo hl).elim | skip
  case load t a =>
    cases hk : tk P t with
    | none => simp only [hk] at hl; exact (zo hl).elim
    | some k =>
      cases k with
      | one =>
        simp only [hk] at hl
        obtain ⟨h1, r', h2, h3⟩ := zbek h hk hl (hr a)
        exact ⟨h1, r', h2, by simp [execOp, h3]⟩
      | agg n =>
        simp only [hk] at hl
        obtain ⟨h1, r', h2, h3⟩ := zbel h hk hl (hr a)
        exact ⟨h1, r', h2, by simp [execOp, h3]⟩
  case convert src dst x =>
    generalize hs : P.underlying src = s at hl
    generalize hd : P.underlying dst = d at hl
    split at hl
    all_goals first | exact (zo hl).elim | skip
    rename_i el
    generalize hel : P.underlying el = ed at hl
    split at hl
    all_goals first | exact (zo hl).elim | skip
    obtain ⟨h1, h2, h3⟩ := zbm0 (P := P) h hl (hr x)
    refine ⟨h1, r, h2, ?_⟩
    have : (convert src dst (c x)).run P w = .ok r w := by
      unfold convert
      simp only [Sem.run_bind, run_underlying hs, Result.andThen_ok, run_underlying hd]
      unfold b2s at hl
      have hx := hr x
      split at hl
      · rename_i q; rw [q] at hx; obtain ⟨_, _, hc⟩ := hx.snil_inv; rw [hc] at h3 ⊢; simp [run_underlying hel, h3]
      · rename_i q; rw [q] at hx; obtain ⟨L, co, ccap, ca, hL, hc, _⟩ := hx.slc_inv; rw [hc] at h3 ⊢; simp [run_underlying hel, h3]
      · cases hl
    simp [execOp, this]
  case lookup t m k ok =>
    generalize hu : P.underlying t = d at hl
    split at hl
    all_goals first | exact (zo hl).elim | skip
    rename_i kt et
    generalize hz : zh8 P et = z at hl
    generalize hkk : z28 P kt = kk at hl
    split at hl
    all_goals first | exact (zo hl).elim | skip
    obtain ⟨h1, r', h2, h3⟩ := zbfw h hu hz hkk hl (hr m) (hr k)
    exact ⟨h1, r', h2, by simp [execOp, h3]⟩
  case call cl =>
    obtain ⟨callee, args, argTypes⟩ := cl
    simp only at hl
    cases callee <;> simp only at hl <;> first | exact (zo hl).elim | skip
    rename_i b
    obtain ⟨args⟩ := args
    obtain ⟨ts⟩ := argTypes
    simp only [zbeg] at hl
    split at hl
    all_goals first | exact (zo hl).elim | skip
    rename_i x t
    generalize hu : P.underlying t = d at hl
    split at hl
    all_goals first | exact (zo hl).elim | skip
    obtain ⟨h1, h2, h3⟩ := zbj2 (ty := ty) h hu hl (hr x)
    exact ⟨h1, r, h2, by simp [execOp, resolve, invoke, builtin, h3]⟩
end Go.AM
