import Derived.Test.YtbnjeldcndpdoaaAmSem
import Derived.Laws.Sem
import Derived.Laws.World
import Derived.Laws.Cells
import Derived.Laws.Slices
import Derived.Laws.AppendOwn
import Derived.Laws.StructEq
import Derived.Tactics
import Derived.WalkKit
set_option linter.all false
/- Operations that read and write no memory: what the abstract machine says is what the model does. -/
namespace Go.AM
open Go.RowKit (Below)

variable {P : Program} {ρ : Ren}

theorem VRel.int_inv {k n v} (h : VRel ρ (.int k n) v) : v = .int k n := by cases h; rfl
theorem VRel.bool_inv {b v} (h : VRel ρ (.bool b) v) : v = .bool b := by cases h; rfl
theorem VRel.string_inv {s v} (h : VRel ρ (.string s) v) : v = .string s := by cases h; rfl
theorem VRel.agg_inv {x v} (h : VRel ρ (.agg x) v) : ∃ x', v = .agg x' ∧ LRel ρ x.toList x'.toList := by cases h; exact ⟨_, rfl, arel (by assumption) (by assumption)⟩
theorem VRel.ptr_inv {b o v} (h : VRel ρ (AM.ptr b o) v) : ∃ L, ρ b = some L ∧ v = .pointer (some ⟨L.blk, L.off + o, none⟩) := by cases h; exact ⟨_, by assumption, rfl⟩

theorem VRel.slc_inv {b o u len cap v} (h : VRel ρ (AM.slc b o u len cap) v) : ∃ L co ccap ca, ρ b = some L ∧ v = .slice (some ca) len ccap ∧ (co = L.off + o ∨ cap = 0) ∧ len ≤ cap ∧ cap ≤ ccap ∧ (u = 0 ∨ co + ccap * u ≤ L.size) ∧ (ca = ⟨L.blk, co, none⟩ ∨ ccap = 0) ∧ (u = 0 ∨ ccap ≤ 9223372036854775807) := by
  cases h; exact ⟨_, _, _, _, by assumption, rfl, by assumption, by assumption, by assumption, by assumption, by assumption, by assumption⟩
theorem VRel.snil_inv {n c v} (h : VRel ρ (.slice none n c) v) : n = 0 ∧ c = 0 ∧ v = .slice none 0 0 := by cases h; exact ⟨rfl, rfl, rfl⟩

theorem pick_sound {c a b c' a' b' r : V} (hc : VRel ρ c c') (ha : VRel ρ a a') (hb : VRel ρ b b') (h : pickV c a b = some r) :
    ∃ t, c' = .bool t ∧ VRel ρ r (if t then a' else b') := by
  unfold pickV at h
  split at h
  · exact ⟨true, hc.bool_inv, by cases h; simpa using ha⟩
  · exact ⟨false, hc.bool_inv, by cases h; simpa using hb⟩
  · cases h

theorem toList_eq_iff (a b : ByteArray) : (a.toList == b.toList) = decide (a = b) := by
  rw [Bool.eq_iff_iff]; simp only [beq_iff_eq, decide_eq_true_eq, ByteArray.toList_eq]
  constructor
  · intro h
    obtain ⟨⟨x⟩⟩ := a; obtain ⟨⟨y⟩⟩ := b; simp at h; simp [h]
  · rintro rfl; rfl

theorem i64max : (IntKind.i64.max : Int) = 9223372036854775807 := rfl

theorem bin_sound {op : BinOp} {a b r : V} (t : TypeId) (h : bin op a b = some r) (w : World) : (binOp op t a b).run P w = .ok r w := by
  unfold bin at h
  split at h
  · rename_i k x k' y
    split at h
    · unfold ishift at h
      split at h
      · cases h
      · cases h; simp [binOp, Op.shift, *]
    · unfold ishift at h
      split at h
      · cases h
      · cases h; simp [binOp, Op.shift, *]
    · rename_i h1 h2
      split at h
      · rename_i hk; subst hk
        unfold ibin at h
        cases op <;> simp_all [binOp, Op.intArith, Op.intDiv, Op.intBits, Op.intCmp, ibits]
      · cases h
  · rename_i x y
    unfold sbin at h
    cases op <;> simp_all [binOp, Op.stringOp, toList_eq_iff]
    have := i64max
    omega
  · cases h

/-- what bin takes are numbers and strings, alike on both sides -/
theorem bin_flat {op : BinOp} {a b r a' b' : V} (h : bin op a b = some r) (ha : VRel ρ a a') (hb : VRel ρ b b') : a' = a ∧ b' = b := by
  unfold bin at h
  split at h
  · exact ⟨ha.int_inv, hb.int_inv⟩
  · exact ⟨ha.string_inv, hb.string_inv⟩
  · cases h

theorem bin_res {op : BinOp} {a b r : V} (h : bin op a b = some r) : VRel ρ r r := by
  unfold bin at h
  split at h
  · split at h
    · unfold ishift at h; split at h <;> first | (cases h; constructor) | cases h
    · unfold ishift at h; split at h <;> first | (cases h; constructor) | cases h
    · split at h
      · unfold ibin at h
        split at h <;> first | (cases h; constructor) | skip
        · split at h <;> first | (cases h; constructor) | cases h
        · split at h <;> first | (cases h; constructor) | cases h
        · unfold ibits at h; dsimp only at h; split at h <;> first | (cases h; constructor) | cases h
      · cases h
  · unfold sbin at h
    split at h <;> first | (cases h; constructor) | skip
    · split at h <;> first | (cases h; constructor) | cases h
    · cases h
  · cases h

theorem un_sound {op : UnOp} {a a' r : V} (h : un op a = some r) (ha : VRel ρ a a') (w : World) : (Op.unary op a').run P w = .ok r w ∧ VRel ρ r r := by
  unfold un at h
  split at h
  · cases h; rw [ha.int_inv]; exact ⟨by simp [Op.unary, Op.intArith], .int _ _⟩
  · unfold ibits at h; cases h; rw [ha.int_inv]; exact ⟨by simp [Op.unary, Op.intBits], .int _ _⟩
  · cases h; rw [ha.bool_inv]; exact ⟨by simp [Op.unary], .bool _⟩
  · cases h

theorem cvi_sound {k : IntKind} {a a' r : V} (h : cvi k a = some r) (ha : VRel ρ a a') : ∃ j n, a' = .int j n ∧ r = .int k (k.wrap n) := by
  unfold cvi at h
  split at h
  · cases h; exact ⟨_, _, ha.int_inv, rfl⟩
  · cases h

theorem eqK_flat {k : FK} {a b a' b' : V} {r : Bool} (h : eqK k a b = some r) (ha : VRel ρ a a') (hb : VRel ρ b b') : a' = a ∧ b' = b := by
  unfold eqK at h
  split at h
  · exact ⟨ha.bool_inv, hb.bool_inv⟩
  · exact ⟨ha.int_inv, hb.int_inv⟩
  · exact ⟨ha.string_inv, hb.string_inv⟩
  · cases h

theorem fkT_b {t : TypeId} (ht : fkT P t = some .b) : P.underlying t = some .bool := by
  unfold fkT at ht; split at ht <;> first | assumption | cases ht
theorem fkT_i {t : TypeId} (ht : fkT P t = some .i) : ∃ k, P.underlying t = some (.int k) := by
  unfold fkT at ht; split at ht <;> first | exact ⟨_, by assumption⟩ | cases ht
theorem fkT_s {t : TypeId} (ht : fkT P t = some .s) : P.underlying t = some .string := by
  unfold fkT at ht; split at ht <;> first | assumption | cases ht

theorem eqK_run {k : FK} {a b : V} {r : Bool} {t : TypeId} (ht : fkT P t = some k) (w : World) (d : Nat) (h : eqK k a b = some r) : (Op.equalIn (d + 1) t a b).run P w = .ok r w := by
  cases k
  · cases a <;> cases b <;> simp only [eqK] at h <;> first | (cases h; done) | skip
    cases h; rw [run_equalIn_bool' w d t _ _ (fkT_b ht)]
  · cases a <;> cases b <;> simp only [eqK] at h <;> first | (cases h; done) | skip
    split at h
    · rename_i hk; subst hk; cases h; obtain ⟨k', hk'⟩ := fkT_i ht; rw [run_equalIn_int w d t _ _ _ _ hk']
    · cases h
  · cases a <;> cases b <;> simp only [eqK] at h <;> first | (cases h; done) | skip
    cases h; rw [run_equalIn_string w d t _ _ (fkT_s ht), toList_eq_iff]

theorem fkT_isAgg {k : FK} {t : TypeId} (ht : fkT P t = some k) (w : World) : (isAgg t).run P w = .ok false w := by
  unfold fkT at ht
  split at ht <;> first | (rename_i hu; simp [isAgg, run_underlying hu]) | cases ht

theorem eqFs_run (w : World) (d : Nat) (A B : Array V) : ∀ (fs : List Field) (n : Nat) (ks : List FK) (xs ys : List V) (r : Bool), flatFs P n fs = some ks →
    LRel ρ xs (A.toList.drop n) → LRel ρ ys (B.toList.drop n) → eqKs ks xs ys = some r → (Op.eqFields (d + 1) A B fs).run P w = .ok r w
  | [], n, ks, xs, ys, r, hf, hx, hy, h => by
    simp only [flatFs] at hf; cases hf
    cases xs <;> cases ys <;> simp only [eqKs] at h <;> first | (cases h; done) | skip
    cases h; rfl
  | f :: fs, n, ks, xs, ys, r, hf, hx, hy, h => by
    simp only [flatFs] at hf
    split at hf
    · rename_i k ks' hk hks
      split at hf
      · rename_i hc
        cases hf
        simp only [Bool.and_eq_true, bne_iff_ne, ne_eq, beq_iff_eq] at hc
        obtain ⟨hnm, hoff⟩ := hc
        cases xs <;> cases ys <;> simp only [eqKs] at h <;> first | (cases h; done) | skip
        · rename_i x xs1 y ys1
          generalize hA : A.toList.drop n = A1 at hx
          generalize hB : B.toList.drop n = B1 at hy
          cases hx with
          | cons hx1 hx2 =>
            cases hy with
            | cons hy1 hy2 =>
              rename_i a1 as1 b1 bs1
              have ha : A[n]? = some a1 := by have := congrArg List.head? hA; simpa using this
              have hb : B[n]? = some b1 := by have := congrArg List.head? hB; simpa using this
              have hA2 : A.toList.drop (n + 1) = as1 := by have := congrArg List.tail hA; simpa using this
              have hB2 : B.toList.drop (n + 1) = bs1 := by have := congrArg List.tail hB; simpa using this
              have hpa : (part f.type A f.offset).run P w = .ok a1 w := by simp [part, fkT_isAgg hk w, hoff, ha]
              have hpb : (part f.type B f.offset).run P w = .ok b1 w := by simp [part, fkT_isAgg hk w, hoff, hb]
              simp only [Op.eqFields, hnm, ne_eq, not_false_eq_true, if_true, Sem.run_bind, hpa, hpb, Result.andThen_ok]
              split at h
              · rename_i he
                obtain ⟨e1, e2⟩ := eqK_flat he hx1 hy1; subst e1; subst e2
                rw [eqK_run hk w d he]
                simp only [Result.andThen_ok]
                exact eqFs_run w d A B fs (n + 1) ks' xs1 ys1 r hks (by rw [hA2]; exact hx2) (by rw [hB2]; exact hy2) h
              · rename_i he
                cases h
                obtain ⟨e1, e2⟩ := eqK_flat he hx1 hy1; subst e1; subst e2
                rw [eqK_run hk w d he]
                simp
              · cases h
      · cases hf
    · cases hf

theorem flatS_of {t : TypeId} {ks : List FK} (h : flatS P t = some ks) : ∃ fs, P.underlying t = some (.struct fs) ∧ P.stoodInHeld t = false ∧ P.eqGuardType P.depth t = false ∧ flatFs P 0 fs.toList = some ks := by
  unfold flatS at h
  split at h
  · split at h
    · rename_i hc; simp only [Bool.and_eq_true, Bool.not_eq_true'] at hc; exact ⟨_, by assumption, hc.1, hc.2, h⟩
    · cases h
  · cases h

theorem eqAgg_run {t : TypeId} {ks : List FK} {a b a' b' : V} {r : Bool} (ht : flatS P t = some ks) (h : eqAgg ks a b = some r) (ha : VRel ρ a a') (hb : VRel ρ b b') (w : World) (d : Nat) :
    ∃ A B, a' = .agg A ∧ b' = .agg B ∧ (Op.equalIn (d + 2) t a' b').run P w = .ok r w := by
  obtain ⟨fs, hu, h1, h2, h3⟩ := flatS_of ht
  unfold eqAgg at h
  split at h
  · obtain ⟨A, rfl, hA⟩ := ha.agg_inv
    obtain ⟨B, rfl, hB⟩ := hb.agg_inv
    refine ⟨A, B, rfl, rfl, ?_⟩
    have hfs : P.fieldsOf t = fs := by simp [Program.fieldsOf, hu]
    rw [run_equalIn_struct w (d + 1) t A B (by rw [hfs]; exact hu) h1, hfs]
    exact eqFs_run w d A B fs.toList 0 ks _ _ r h3 (by simpa using hA) (by simpa using hB) h
  · cases h

theorem isNil_sound {nk : NK} {a a' : V} {r : Bool} (h : isNil nk a = some r) (ha : VRel ρ a a') : isNil nk a' = some r := by
  cases nk <;> cases a <;> simp only [isNil] at h <;> first | (cases h; done) | (cases ha <;> simp_all [isNil])

theorem nkT_of {t : TypeId} {nk : NK} (h : nkT P t = some nk) : match nk with
    | .p => ∃ e, P.underlying t = some (.pointer e)
    | .s => ∃ e, P.underlying t = some (.slice e)
    | .m => ∃ k e, P.underlying t = some (.map k e)
    | .f => ∃ x y z, P.underlying t = some (.func x y z)
    | .i => ∃ m, P.underlying t = some (.interface m) := by
  unfold nkT at h
  split at h <;> cases h <;> first | exact ⟨_, by assumption⟩ | exact ⟨_, _, by assumption⟩ | exact ⟨_, _, _, by assumption⟩

/-- two values of which one is nil -/
theorem eqNil_run {t : TypeId} {nk : NK} (ht : nkT P t = some nk) {a z : V} {r : Bool} (h : isNil nk a = some r) (hz : isNil nk z = some true) (w : World) (n : Nat) :
    (Op.equalIn (n + 1) t a z).run P w = .ok r w ∧ (Op.equalIn (n + 1) t z a).run P w = .ok r w := by
  have hu := nkT_of ht
  cases nk <;> cases a <;> simp only [isNil] at h <;> first | (cases h; done) | skip
  all_goals (cases z <;> simp only [isNil] at hz <;> first | (cases hz; done) | skip)
  · rename_i x y; obtain ⟨e, hu⟩ := hu; cases h; cases y <;> simp at hz
    cases x <;> simp [Op.equalIn, run_underlying hu]
  · rename_i x _ _ y _ _; obtain ⟨e, hu⟩ := hu; cases h; cases y <;> simp at hz
    cases x <;> simp [Op.equalIn, run_underlying hu]
  · rename_i x y; obtain ⟨k, e, hu⟩ := hu; cases h; cases y <;> simp at hz
    cases x <;> simp [Op.equalIn, run_underlying hu]
  all_goals (cases h)
  · obtain ⟨_, _, _, hu⟩ := hu; simp [Op.equalIn, run_underlying hu]
  · obtain ⟨_, _, _, hu⟩ := hu; simp [Op.equalIn, run_underlying hu]
  · obtain ⟨_, hu⟩ := hu; simp [Op.equalIn, run_underlying hu]
  · obtain ⟨_, hu⟩ := hu; simp [Op.equalIn, run_underlying hu]

theorem notIf_eq {neg : Bool} {o : Option Bool} {r : V} (h : notIf neg o = some r) : ∃ b, o = some b ∧ r = .bool (if neg then !b else b) := by
  unfold notIf at h; split at h
  · cases h; exact ⟨_, rfl, rfl⟩
  · cases h

/-- == and != as the model's operation on two values, the guard ahead -/
def eqOp (neg : Bool) : BinOp := if neg then .neq else .eql

theorem run_eq_of {neg : Bool} {t : TypeId} {a b : V} {r : Bool} {w : World} (h : (Op.equalIn (9999 + 1) t a b).run P w = .ok r w)
    (hne : ∀ k x k' y, ¬ (a = .int k x ∧ b = .int k' y)) (hns : ∀ x y, ¬ (a = .string x ∧ b = .string y)) (hnf : ∀ k x k' y, ¬ (a = .float k x ∧ b = .float k' y))
    (hnc : ∀ k x y k' x' y', ¬ (a = .complex k x y ∧ b = .complex k' x' y')) : (binOp (eqOp neg) t a b).run P w = .ok (.bool (if neg then !r else r)) w := by
  have h' : (Op.equal t a b).run P w = .ok r w := h
  cases neg
  · show (binOp .eql t a b).run P w = _
    unfold binOp
    split <;> first | exact absurd ⟨rfl, rfl⟩ (hne _ _ _ _) | exact absurd ⟨rfl, rfl⟩ (hns _ _) | exact absurd ⟨rfl, rfl⟩ (hnf _ _ _ _) | exact absurd ⟨rfl, rfl⟩ (hnc _ _ _ _ _ _) | simp_all
  · show (binOp .neq t a b).run P w = _
    unfold binOp
    split <;> first | exact absurd ⟨rfl, rfl⟩ (hne _ _ _ _) | exact absurd ⟨rfl, rfl⟩ (hns _ _) | exact absurd ⟨rfl, rfl⟩ (hnf _ _ _ _) | exact absurd ⟨rfl, rfl⟩ (hnc _ _ _ _ _ _) | simp_all

theorem guard_none {op : BinOp} {t : TypeId} {x y : Operand} {a b : V} {w : World} (h1 : ∀ xs ys, ¬ (a = .agg xs ∧ b = .agg ys)) (h2 : ¬ (a = .nilIface ∧ b = .nilIface)) :
    (eqGuard op t x y a b).run P w = .ok () w := by
  cases a <;> cases b <;> first
    | exact absurd ⟨rfl, rfl⟩ h2
    | exact absurd ⟨rfl, rfl⟩ (h1 _ _)
    | (cases op <;> rfl)

theorem eqK_kind {k : FK} {a b : V} {r : Bool} (h : eqK k a b = some r) : (∃ x y, a = .bool x ∧ b = .bool y) ∨ (∃ k x k' y, a = .int k x ∧ b = .int k' y) ∨ (∃ x y, a = .string x ∧ b = .string y) := by
  cases k <;> cases a <;> cases b <;> simp only [eqK] at h <;> first | (cases h; done) | simp

theorem isNil_kind {nk : NK} {a : V} {r : Bool} (h : isNil nk a = some r) : (∃ x, a = .pointer x) ∨ (∃ x n c, a = .slice x n c) ∨ (∃ x, a = .map x) ∨ a = .nilFunc ∨ (∃ f x y, a = .func f x y) ∨ a = .nilIface ∨ (∃ t v, a = .iface t v) := by
  cases nk <;> cases a <;> simp only [isNil] at h <;> first | (cases h; done) | simp

/-- == and != of the text -/
theorem eq_sound {neg : Bool} {t : TypeId} {x y : Operand} {e c : Operand → V} {r : V} (hr : ∀ z, VRel ρ (e z) (c z)) (hcn : ∀ v, c (.const v) = v)
    (h : eqM P neg t x y e = some r) (w : World) : ((do eqGuard (eqOp neg) t x y (c x) (c y); binOp (eqOp neg) t (c x) (c y)) : Sem Value).run P w = .ok r w ∧ VRel ρ r r := by
  unfold eqM at h
  split at h
  · rename_i hu
    obtain ⟨b, hb, rfl⟩ := notIf_eq h
    obtain ⟨e1, e2⟩ := eqK_flat hb (hr x) (hr y)
    rw [e1, e2]
    have hf : fkT P t = some .b := by simp [fkT, hu]
    have := eqK_run hf w 9999 hb
    rcases eqK_kind hb with ⟨p, q, h1, h2⟩ | ⟨_, p, _, q, h1, h2⟩ | ⟨p, q, h1, h2⟩ <;> rw [h1, h2] at hb this ⊢ <;> simp only [eqK] at hb <;> first | (cases hb; done) | skip
    refine ⟨?_, .bool _⟩
    simp only [Sem.run_bind, guard_none (a := .bool p) (b := .bool q) (by simp) (by simp), Result.andThen_ok]
    exact run_eq_of this (by simp) (by simp) (by simp) (by simp)
  · obtain ⟨e1, e2⟩ := bin_flat h (hr x) (hr y)
    rw [e1, e2]
    refine ⟨?_, bin_res h⟩
    have hk : (∃ k p k' q, e x = .int k p ∧ e y = .int k' q) ∨ (∃ p q, e x = .string p ∧ e y = .string q) := by
      unfold bin at h; split at h
      · rename_i h1 h2; exact .inl ⟨_, _, _, _, h1, h2⟩
      · rename_i h1 h2; exact .inr ⟨_, _, h1, h2⟩
      · cases h
    have hg : (eqGuard (eqOp neg) t x y (e x) (e y)).run P w = .ok () w := by
      rcases hk with ⟨_, _, _, _, h1, h2⟩ | ⟨_, _, h1, h2⟩ <;> rw [h1, h2] <;> exact guard_none (by simp) (by simp)
    simp only [Sem.run_bind, hg, Result.andThen_ok]
    exact bin_sound t h w
  · obtain ⟨e1, e2⟩ := bin_flat h (hr x) (hr y)
    rw [e1, e2]
    refine ⟨?_, bin_res h⟩
    have hk : (∃ k p k' q, e x = .int k p ∧ e y = .int k' q) ∨ (∃ p q, e x = .string p ∧ e y = .string q) := by
      unfold bin at h; split at h
      · rename_i h1 h2; exact .inl ⟨_, _, _, _, h1, h2⟩
      · rename_i h1 h2; exact .inr ⟨_, _, h1, h2⟩
      · cases h
    have hg : (eqGuard (eqOp neg) t x y (e x) (e y)).run P w = .ok () w := by
      rcases hk with ⟨_, _, _, _, h1, h2⟩ | ⟨_, _, h1, h2⟩ <;> rw [h1, h2] <;> exact guard_none (by simp) (by simp)
    simp only [Sem.run_bind, hg, Result.andThen_ok]
    exact bin_sound t h w
  · split at h
    · rename_i ks hks
      obtain ⟨b, hb, rfl⟩ := notIf_eq h
      obtain ⟨A, B, hA, hB, hrun⟩ := eqAgg_run hks hb (hr x) (hr y) w 9998
      refine ⟨?_, .bool _⟩
      obtain ⟨fs, hu, h1, h2, h3⟩ := flatS_of hks
      rw [hA, hB] at hrun ⊢
      simp only [Sem.run_bind, run_eqGuard_agg w _ t x y A B h2, Result.andThen_ok]
      exact run_eq_of hrun (by simp) (by simp) (by simp) (by simp)
    · cases h
  · split at h
    · rename_i nk hnk
      have key : ∀ (u v : Operand) (b : Bool), isConstNil nk v = true → isNil nk (e u) = some b → isNil nk (c u) = some b ∧ isNil nk (c v) = some true ∧ (∃ z, v = .const z) := by
        intro u v b hv hb
        refine ⟨isNil_sound hb (hr u), ?_, ?_⟩
        · unfold isConstNil at hv; split at hv
          · rw [hcn]; split at hv
            · assumption
            · cases hv
          · cases hv
        · unfold isConstNil at hv; split at hv
          · exact ⟨_, rfl⟩
          · cases hv
      have fin : ∀ (b : Bool) (a z : V), isNil nk a = some b → isNil nk z = some true → (binOp (eqOp neg) t a z).run P w = .ok (.bool (if neg then !b else b)) w ∧ (binOp (eqOp neg) t z a).run P w = .ok (.bool (if neg then !b else b)) w := by
        intro b a z ha hz
        have h2 := eqNil_run hnk ha hz w 9999
        have k1 := isNil_kind ha; have k2 := isNil_kind hz
        constructor
        · refine run_eq_of h2.1 ?_ ?_ ?_ ?_ <;> (intros; rintro ⟨q1, q2⟩; subst q1; simp at k1)
        · refine run_eq_of h2.2 ?_ ?_ ?_ ?_ <;> (intros; rintro ⟨q1, q2⟩; subst q2; simp at k1)
      have gfin : ∀ (a b : V) (ra rb : Bool), isNil nk a = some ra → isNil nk b = some rb → (∃ z, x = .const z) ∨ (∃ z, y = .const z) → (eqGuard (eqOp neg) t x y a b).run P w = .ok () w := by
        intro a b ra rb ha hb hc
        have k1 := isNil_kind ha
        by_cases h2 : a = .nilIface ∧ b = .nilIface
        · obtain ⟨rfl, rfl⟩ := h2
          rcases hc with ⟨z, rfl⟩ | ⟨z, rfl⟩ <;> cases neg <;> simp [eqGuard, eqOp]
        · exact guard_none (by intro xs ys ⟨q1, _⟩; subst q1; simp at k1) h2
      split at h
      · rename_i hy
        obtain ⟨b, hb, rfl⟩ := notIf_eq h
        obtain ⟨q1, q2, z, hz⟩ := key x y b hy hb
        refine ⟨?_, .bool _⟩
        simp only [Sem.run_bind, gfin _ _ _ _ q1 q2 (.inr ⟨z, hz⟩), Result.andThen_ok]
        exact (fin b _ _ q1 q2).1
      · split at h
        · rename_i hx
          obtain ⟨b, hb, rfl⟩ := notIf_eq h
          obtain ⟨q1, q2, z, hz⟩ := key y x b hx hb
          refine ⟨?_, .bool _⟩
          simp only [Sem.run_bind, gfin _ _ _ _ q2 q1 (.inl ⟨z, hz⟩), Result.andThen_ok]
          exact (fin b _ _ q1 q2).2
        · cases h
    · cases h

end Go.AM
