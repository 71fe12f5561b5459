import Derived.Test.YtjchglndancedaaGreatDoorAmSem
import Derived.Laws.Sem
import Derived.Laws.World
import Derived.Laws.Cells
import Derived.Laws.Slices
import Derived.Laws.AppendOwn
import Derived.Laws.StructEq
import Derived.Tactics
import Derived.WalkKit
set_option linter.all false
/- Operations that read and write no memory: what the abstract machine says is what the model does. -/
namespace Go.AM
open Go.RowKit (Below)
variable {P : Program} {ρ : Ren}
theorem VRel.int_inv {k n v} (h : VRel ρ (.int k n) v) : v = .int k n := by cases h; rfl
theorem VRel.bool_inv {b v} (h : VRel ρ (.bool b) v) : v = .bool b := by cases h; rfl
theorem VRel.string_inv {s v} (h : VRel ρ (.string s) v) : v = .string s := by cases h; rfl
theorem VRel.agg_inv {x v} (h : VRel ρ (.agg x) v) : ∃ x', v = .agg x' ∧ LRel ρ x.toList x'.toList := by cases h; exact ⟨_, rfl, arel (by assumption) (by assumption)⟩
theorem VRel.ptr_inv {b o v} (h : VRel ρ (AM.ptr b o) v) : ∃ L, ρ b = some L ∧ v = .pointer (some ⟨L.blk, L.off + o, none⟩) := by cases h; exact ⟨_, by assumption, rfl⟩
theorem VRel.slc_inv {b o u len cap v} (h : VRel ρ (AM.slc b o u len cap) v) : ∃ L co ccap ca, ρ b = some L ∧ v = .slice (some ca) len ccap ∧ (co = L.off + o ∨ cap = 0) ∧ len ≤ cap ∧ cap ≤ ccap ∧ (u = 0 ∨ co + ccap * u ≤ L.size) ∧ (ca = ⟨L.blk, co, none⟩ ∨ ccap = 0) ∧ (u = 0 ∨ ccap ≤ 9223372036854775807) := by
  cases h; exact ⟨_, _, _, _, by assumption, rfl, by assumption, by assumption, by assumption, by assumption, by assumption, by assumption⟩
theorem VRel.snil_inv {n c v} (h : VRel ρ (.slice none n c) v) : n = 0 ∧ c = 0 ∧ v = .slice none 0 0 := by cases h; exact ⟨rfl, rfl, rfl⟩
theorem zbjw {c a b c' a' b' r : V} (hc : VRel ρ c c') (ha : VRel ρ a a') (hb : VRel ρ b b') (h : zcd c a b = some r) :
    ∃ t, c' = .bool t ∧ VRel ρ r (if t then a' else b') := by
  unfold zcd at h
  split at h
  · exact ⟨true, hc.bool_inv, by cases h; simpa using ha⟩
  · exact ⟨false, hc.bool_inv, by cases h; simpa using hb⟩
  · cases h
theorem zsk (a b : ByteArray) : (a.toList == b.toList) = decide (a = b) := by
  rw [Bool.eq_iff_iff]; simp only [beq_iff_eq, decide_eq_true_eq, ByteArray.toList_eq]
  constructor
  · intro h
    obtain ⟨⟨x⟩⟩ := a; obtain ⟨⟨y⟩⟩ := b; simp at h; simp [h]
  · rintro rfl; rfl
theorem zbtb : (IntKind.i64.max : Int) = 9223372036854775807 := rfl
theorem z8i {op : BinOp} {a b r : V} (t : TypeId) (h : bin op a b = some r) (w : World) : (binOp op t a b).run P w = .ok r w := by
  unfold bin at h
  split at h
  · rename_i k x k' y
    split at h
    · unfold z8f at h
      split at h
      · cases h
      · cases h; simp [binOp, Op.shift, *]
    · unfold z8f at h
      split at h
      · cases h
      · cases h; simp [binOp, Op.shift, *]
    · rename_i h1 h2
      split at h
      · rename_i hk; subst hk
        unfold z8e at h
        cases op <;> simp_all [binOp, Op.intArith, Op.intDiv, Op.intBits, Op.intCmp, zbhe]
      · cases h
  · rename_i x y
    unfold sbin at h
    cases op <;> simp_all [binOp, Op.stringOp, zsk]
    have := zbtb
    omega
  · cases h
theorem zba5 {op : BinOp} {a b r a' b' : V} (h : bin op a b = some r) (ha : VRel ρ a a') (hb : VRel ρ b b') : a' = a ∧ b' = b := by
  unfold bin at h
  split at h
  · exact ⟨ha.int_inv, hb.int_inv⟩
  · exact ⟨ha.string_inv, hb.string_inv⟩
  · cases h
theorem zbft {op : BinOp} {a b r : V} (h : bin op a b = some r) : VRel ρ r r := by
  unfold bin at h
  split at h
  · split at h
    · unfold z8f at h; split at h <;> first | (cases h; constructor) | cases h
    · unfold z8f at h; split at h <;> first | (cases h; constructor) | cases h
    · split at h
      · unfold z8e at h
        split at h <;> first | (cases h; constructor) | skip
        · split at h <;> first | (cases h; constructor) | cases h
        · split at h <;> first | (cases h; constructor) | cases h
        · unfold zbhe at h; dsimp only at h; split at h <;> first | (cases h; constructor) | cases h
      · cases h
  · unfold sbin at h
    split at h <;> first | (cases h; constructor) | skip
    · split at h <;> first | (cases h; constructor) | cases h
    · cases h
  · cases h
theorem zbhh {op : UnOp} {a a' r : V} (h : un op a = some r) (ha : VRel ρ a a') (w : World) : (Op.unary op a').run P w = .ok r w ∧ VRel ρ r r := by
  unfold un at h
  split at h
  · cases h; rw [ha.int_inv]; exact ⟨by simp [Op.unary, Op.intArith], .int _ _⟩
  · unfold zbhe at h; cases h; rw [ha.int_inv]; exact ⟨by simp [Op.unary, Op.intBits], .int _ _⟩
  · cases h; rw [ha.bool_inv]; exact ⟨by simp [Op.unary], .bool _⟩
  · cases h
theorem zbmy {k : IntKind} {a a' r : V} (h : cvi k a = some r) (ha : VRel ρ a a') : ∃ j n, a' = .int j n ∧ r = .int k (k.wrap n) := by
  unfold cvi at h
  split at h
  · cases h; exact ⟨_, _, ha.int_inv, rfl⟩
  · cases h
theorem zym {k : FK} {a b a' b' : V} {r : Bool} (h : eqK k a b = some r) (ha : VRel ρ a a') (hb : VRel ρ b b') : a' = a ∧ b' = b := by
  unfold eqK at h
  split at h
  · exact ⟨ha.bool_inv, hb.bool_inv⟩
  · exact ⟨ha.int_inv, hb.int_inv⟩
  · exact ⟨ha.string_inv, hb.string_inv⟩
  · cases h
theorem zbsm {t : TypeId} (ht : fkT P t = some .b) : P.underlying t = some .bool := by
  unfold fkT at ht; split at ht <;> first | assumption | cases ht
theorem zbsn {t : TypeId} (ht : fkT P t = some .i) : ∃ k, P.underlying t = some (.int k) := by
  unfold fkT at ht; split at ht <;> first | exact ⟨_, by assumption⟩ | cases ht
theorem zbso {t : TypeId} (ht : fkT P t = some .s) : P.underlying t = some .string := by
  unfold fkT at ht; split at ht <;> first | assumption | cases ht
theorem zbfu {k : FK} {a b : V} {r : Bool} {t : TypeId} (ht : fkT P t = some k) (w : World) (d : Nat) (h : eqK k a b = some r) : (Op.equalIn (d + 1) t a b).run P w = .ok r w := by
  cases k
  · cases a <;> cases b <;> simp only [eqK] at h <;> first | (cases h; done) | skip
    cases h; rw [run_equalIn_bool' w d t _ _ (zbsm ht)]
  · cases a <;> cases b <;> simp only [eqK] at h <;> first | (cases h; done) | skip
    split at h
    · rename_i hk; subst hk; cases h; obtain ⟨k', hk'⟩ := zbsn ht; rw [run_equalIn_int w d t _ _ _ _ hk']
    · cases h
  · cases a <;> cases b <;> simp only [eqK] at h <;> first | (cases h; done) | skip
    cases h; rw [run_equalIn_string w d t _ _ (zbso ht), zsk]
theorem z8j {k : FK} {t : TypeId} (ht : fkT P t = some k) (w : World) : (isAgg t).run P w = .ok false w := by
  unfold fkT at ht
  split at ht <;> first | (rename_i hu; simp [isAgg, run_underlying hu]) | cases ht
theorem zbhi (w : World) (d : Nat) (A B : Array V) : ∀ (fs : List Field) (n : Nat) (ks : List FK) (xs ys : List V) (r : Bool), zu5 P n fs = some ks →
    LRel ρ xs (A.toList.drop n) → LRel ρ ys (B.toList.drop n) → zox ks xs ys = some r → (Op.eqFields (d + 1) A B fs).run P w = .ok r w
  | [], n, ks, xs, ys, r, hf, hx, hy, h => by
    simp only [zu5] at hf; cases hf
    cases xs <;> cases ys <;> simp only [zox] at h <;> first | (cases h; done) | skip
    cases h; rfl
  | f :: fs, n, ks, xs, ys, r, hf, hx, hy, h => by
    simp only [zu5] at hf
    split at hf
    · rename_i k ks' hk hks
      split at hf
      · rename_i hc
        cases hf
        simp only [Bool.and_eq_true, bne_iff_ne, ne_eq, beq_iff_eq] at hc
        obtain ⟨hnm, hoff⟩ := hc
        cases xs <;> cases ys <;> simp only [zox] at h <;> first | (cases h; done) | skip
        · rename_i x xs1 y ys1
          generalize hA : A.toList.drop n = A1 at hx
          generalize hB : B.toList.drop n = B1 at hy
          cases hx with
          | cons hx1 hx2 =>
            cases hy with
            | cons hy1 hy2 =>
              rename_i a1 as1 b1 bs1
              have ha : A[n]? = some a1 := by have := congrArg List.head? hA; simpa using this
              have hb : B[n]? = some b1 := by have := congrArg List.head? hB; simpa using this
              have hA2 : A.toList.drop (n + 1) = as1 := by have := congrArg List.tail hA; simpa using this
              have hB2 : B.toList.drop (n + 1) = bs1 := by have := congrArg List.tail hB; simpa using this
              have hpa : (part f.type A f.offset).run P w = .ok a1 w := by simp [part, z8j hk w, hoff, ha]
              have hpb : (part f.type B f.offset).run P w = .ok b1 w := by simp [part, z8j hk w, hoff, hb]
              simp only [Op.eqFields, hnm, ne_eq, not_false_eq_true, if_true, Sem.run_bind, hpa, hpb, Result.andThen_ok]
              split at h
              · rename_i he
                obtain ⟨e1, e2⟩ := zym he hx1 hy1; subst e1; subst e2
                rw [zbfu hk w d he]
                simp only [Result.andThen_ok]
                exact zbhi w d A B fs (n + 1) ks' xs1 ys1 r hks (by rw [hA2]; exact hx2) (by rw [hB2]; exact hy2) h
              · rename_i he
                cases h
                obtain ⟨e1, e2⟩ := zym he hx1 hy1; subst e1; subst e2
                rw [zbfu hk w d he]
                simp
              · cases h
      · cases hf
    · cases hf
theorem z59 {t : TypeId} {ks : List FK} (h : zba1 P t = some ks) : ∃ fs, P.underlying t = some (.struct fs) ∧ P.stoodInHeld t = false ∧ P.eqGuardType P.depth t = false ∧ zu5 P 0 fs.toList = some ks := by
  unfold zba1 at h
  split at h
  · split at h
    · rename_i hc; simp only [Bool.and_eq_true, Bool.not_eq_true'] at hc; exact ⟨_, by assumption, hc.1, hc.2, h⟩
    · cases h
  · cases h
theorem z8k {t : TypeId} {ks : List FK} {a b a' b' : V} {r : Bool} (ht : zba1 P t = some ks) (h : zjp ks a b = some r) (ha : VRel ρ a a') (hb : VRel ρ b b') (w : World) (d : Nat) :
    ∃ A B, a' = .agg A ∧ b' = .agg B ∧ (Op.equalIn (d + 2) t a' b').run P w = .ok r w := by
  obtain ⟨fs, hu, h1, h2, h3⟩ := z59 ht
  unfold zjp at h
  split at h
  · obtain ⟨A, rfl, hA⟩ := ha.agg_inv
    obtain ⟨B, rfl, hB⟩ := hb.agg_inv
    refine ⟨A, B, rfl, rfl, ?_⟩
    have hfs : P.fieldsOf t = fs := by simp [Program.fieldsOf, hu]
    rw [run_equalIn_struct w (d + 1) t A B (by rw [hfs]; exact hu) h1, hfs]
    exact zbhi w d A B fs.toList 0 ks _ _ r h3 (by simpa using hA) (by simpa using hB) h
  · cases h
theorem zbhj {nk : NK} {a a' : V} {r : Bool} (h : zgb nk a = some r) (ha : VRel ρ a a') : zgb nk a' = some r := by
  cases nk <;> cases a <;> simp only [zgb] at h <;> first | (cases h; done) | (cases ha <;> simp_all [zgb])
theorem zbtc {t : TypeId} {nk : NK} (h : nkT P t = some nk) : match nk with
    | .p => ∃ e, P.underlying t = some (.pointer e)
    | .s => ∃ e, P.underlying t = some (.slice e)
    | .m => ∃ k e, P.underlying t = some (.map k e)
    | .f => ∃ x y z, P.underlying t = some (.func x y z)
    | .i => ∃ m, P.underlying t = some (.interface m) := by
  unfold nkT at h
  split at h <;> cases h <;> first | exact ⟨_, by assumption⟩ | exact ⟨_, _, by assumption⟩ | exact ⟨_, _, _, by assumption⟩
theorem zbmz {t : TypeId} {nk : NK} (ht : nkT P t = some nk) {a z : V} {r : Bool} (h : zgb nk a = some r) (hz : zgb nk z = some true) (w : World) (n : Nat) :
    (Op.equalIn (n + 1) t a z).run P w = .ok r w ∧ (Op.equalIn (n + 1) t z a).run P w = .ok r w := by
  have hu := zbtc ht
  cases nk <;> cases a <;> simp only [zgb] at h <;> first | (cases h; done) | skip
  all_goals (cases z <;> simp only [zgb] at hz <;> first | (cases hz; done) | skip)
  · rename_i x y; obtain ⟨e, hu⟩ := hu; cases h; cases y <;> simp at hz
    cases x <;> simp [Op.equalIn, run_underlying hu]
  · rename_i x _ _ y _ _; obtain ⟨e, hu⟩ := hu; cases h; cases y <;> simp at hz
    cases x <;> simp [Op.equalIn, run_underlying hu]
  · rename_i x y; obtain ⟨k, e, hu⟩ := hu; cases h; cases y <;> simp at hz
    cases x <;> simp [Op.equalIn, run_underlying hu]
  all_goals (cases h)
  · obtain ⟨_, _, _, hu⟩ := hu; simp [Op.equalIn, run_underlying hu]
  · obtain ⟨_, _, _, hu⟩ := hu; simp [Op.equalIn, run_underlying hu]
  · obtain ⟨_, hu⟩ := hu; simp [Op.equalIn, run_underlying hu]
  · obtain ⟨_, hu⟩ := hu; simp [Op.equalIn, run_underlying hu]
theorem z6a {neg : Bool} {o : Option Bool} {r : V} (h : zey neg o = some r) : ∃ b, o = some b ∧ r = .bool (if neg then !b else b) := by
  unfold zey at h; split at h
  · cases h; exact ⟨_, rfl, rfl⟩
  · cases h
def eqOp (neg : Bool) : BinOp := if neg then .neq else .eql
theorem z2t {neg : Bool} {t : TypeId} {a b : V} {r : Bool} {w : World} (h : (Op.equalIn (9999 + 1) t a b).run P w = .ok r w)
    (hne : ∀ k x k' y, ¬ (a = .int k x ∧ b = .int k' y)) (hns : ∀ x y, ¬ (a = .string x ∧ b = .string y)) (hnf : ∀ k x k' y, ¬ (a = .float k x ∧ b = .float k' y))
    (hnc : ∀ k x y k' x' y', ¬ (a = .complex k x y ∧ b = .complex k' x' y')) : (binOp (eqOp neg) t a b).run P w = .ok (.bool (if neg then !r else r)) w := by
  have h' : (Op.equal t a b).run P w = .ok r w := h
  cases neg
  · show (binOp .eql t a b).run P w = _
    unfold binOp
    split <;> first | exact absurd ⟨rfl, rfl⟩ (hne _ _ _ _) | exact absurd ⟨rfl, rfl⟩ (hns _ _) | exact absurd ⟨rfl, rfl⟩ (hnf _ _ _ _) | exact absurd ⟨rfl, rfl⟩ (hnc _ _ _ _ _ _) | simp_all
  · show (binOp .neq t a b).run P w = _
    unfold binOp
    split <;> first | exact absurd ⟨rfl, rfl⟩ (hne _ _ _ _) | exact absurd ⟨rfl, rfl⟩ (hns _ _) | exact absurd ⟨rfl, rfl⟩ (hnf _ _ _ _) | exact absurd ⟨rfl, rfl⟩ (hnc _ _ _ _ _ _) | simp_all
theorem zzg {op : BinOp} {t : TypeId} {x y : Operand} {a b : V} {w : World} (h1 : ∀ xs ys, ¬ (a = .agg xs ∧ b = .agg ys)) (h2 : ¬ (a = .nilIface ∧ b = .nilIface)) :
    (eqGuard op t x y a b).run P w = .ok () w := by
  cases a <;> cases b <;> first
    | exact absurd ⟨rfl, rfl⟩ h2
    | exact absurd ⟨rfl, rfl⟩ (h1 _ _)
    | (cases op <;> rfl)
theorem zbop {k : FK} {a b : V} {r : Bool} (h : eqK k a b = some r) : (∃ x y, a = .bool x ∧ b = .bool y) ∨ (∃ k x k' y, a = .int k x ∧ b = .int k' y) ∨ (∃ x y, a = .string x ∧ b = .string y) := by
  cases k <;> cases a <;> cases b <;> simp only [eqK] at h <;> first | (cases h; done) | simp
theorem z4v {nk : NK} {a : V} {r : Bool} (h : zgb nk a = some r) : (∃ x, a = .pointer x) ∨ (∃ x n c, a = .slice x n c) ∨ (∃ x, a = .map x) ∨ a = .nilFunc ∨ (∃ f x y, a = .func f x y) ∨ a = .nilIface ∨ (∃ t v, a = .iface t v) := by
  cases nk <;> cases a <;> simp only [zgb] at h <;> first | (cases h; done) | simp
theorem z6b {neg : Bool} {t : TypeId} {x y : Operand} {e c : Operand → V} {r : V} (hr : ∀ z, VRel ρ (e z) (c z)) (hcn : ∀ v, c (.const v) = v)
    (h : eqM P neg t x y e = some r) (w : World) : ((do eqGuard (eqOp neg) t x y (c x) (c y); binOp (eqOp neg) t (c x) (c y)) : Sem Value).run P w = .ok r w ∧ VRel ρ r r := by
  unfold eqM at h
  split at h
  · rename_i hu
    obtain ⟨b, hb, rfl⟩ := z6a h
    obtain ⟨e1, e2⟩ := zym hb (hr x) (hr y)
    rw [e1, e2]
    have hf : fkT P t = some .b := by simp [fkT, hu]
    have := zbfu hf w 9999 hb
    rcases zbop hb with ⟨p, q, h1, h2⟩ | ⟨_, p, _, q, h1, h2⟩ | ⟨p, q, h1, h2⟩ <;> rw [h1, h2] at hb this ⊢ <;> simp only [eqK] at hb <;> first | (cases hb; done) | skip
    refine ⟨?_, .bool _⟩
    simp only [Sem.run_bind, zzg (a := .bool p) (b := .bool q) (by simp) (by simp), Result.andThen_ok]
    exact z2t this (by simp) (by simp) (by simp) (by simp)
  · obtain ⟨e1, e2⟩ := zba5 h (hr x) (hr y)
    rw [e1, e2]
    refine ⟨?_, zbft h⟩
    have hk : (∃ k p k' q, e x = .int k p ∧ e y = .int k' q) ∨ (∃ p q, e x = .string p ∧ e y = .string q) := by
      unfold bin at h; split at h
      · rename_i h1 h2; exact .inl ⟨_, _, _, _, h1, h2⟩
      · rename_i h1 h2; exact .inr ⟨_, _, h1, h2⟩
      · cases h
    have hg : (eqGuard (eqOp neg) t x y (e x) (e y)).run P w = .ok () w := by
      rcases hk with ⟨_, _, _, _, h1, h2⟩ | ⟨_, _, h1, h2⟩ <;> rw [h1, h2] <;> exact zzg (by simp) (by simp)
    simp only [Sem.run_bind, hg, Result.andThen_ok]
    exact z8i t h w
  · obtain ⟨e1, e2⟩ := zba5 h (hr x) (hr y)
    rw [e1, e2]
    refine ⟨?_, zbft h⟩
    have hk : (∃ k p k' q, e x = .int k p ∧ e y = .int k' q) ∨ (∃ p q, e x = .string p ∧ e y = .string q) := by
      unfold bin at h; split at h
      · rename_i h1 h2; exact .inl ⟨_, _, _, _, h1, h2⟩
      · rename_i h1 h2; exact .inr ⟨_, _, h1, h2⟩
      · cases h
    have hg : (eqGuard (eqOp neg) t x y (e x) (e y)).run P w = .ok () w := by
      rcases hk with ⟨_, _, _, _, h1, h2⟩ | ⟨_, _, h1, h2⟩ <;> rw [h1, h2] <;> exact zzg (by simp) (by simp)
    simp only [Sem.run_bind, hg, Result.andThen_ok]
    exact z8i t h w
  · split at h
    · rename_i ks hks
      obtain ⟨b, hb, rfl⟩ := z6a h
      obtain ⟨A, B, hA, hB, hrun⟩ := z8k hks hb (hr x) (hr y) w 9998
      refine ⟨?_, .bool _⟩
      obtain ⟨fs, hu, h1, h2, h3⟩ := z59 hks
      rw [hA, hB] at hrun ⊢
      simp only [Sem.run_bind, run_eqGuard_agg w _ t x y A B h2, Result.andThen_ok]
      exact z2t hrun (by simp) (by simp) (by simp) (by simp)
    · cases h
  · split at h
    · rename_i nk hnk
      have key : ∀ (u v : Operand) (b : Bool), zu6 nk v = true → zgb nk (e u) = some b → zgb nk (c u) = some b ∧ zgb nk (c v) = some true ∧ (∃ z, v = .const z) := by
        intro u v b hv hb
        refine ⟨zbhj hb (hr u), ?_, ?_⟩
        · unfold zu6 at hv; split at hv
          · rw [hcn]; split at hv
            · assumption
            · cases hv
          · cases hv
        · unfold zu6 at hv; split at hv
          · exact ⟨_, rfl⟩
          · cases hv
      have fin : ∀ (b : Bool) (a z : V), zgb nk a = some b → zgb nk z = some true → (binOp (eqOp neg) t a z).run P w = .ok (.bool (if neg then !b else b)) w ∧ (binOp (eqOp neg) t z a).run P w = .ok (.bool (if neg then !b else b)) w := by
        intro b a z ha hz
        have h2 := zbmz hnk ha hz w 9999
        have k1 := z4v ha; have k2 := z4v hz
        constructor
        · refine z2t h2.1 ?_ ?_ ?_ ?_ <;> (intros; rintro ⟨q1, q2⟩; subst q1; simp at k1)
        · refine z2t h2.2 ?_ ?_ ?_ ?_ <;> (intros; rintro ⟨q1, q2⟩; subst q2; simp at k1)
      have gfin : ∀ (a b : V) (ra rb : Bool), zgb nk a = some ra → zgb nk b = some rb → (∃ z, x = .const z) ∨ (∃ z, y = .const z) → (eqGuard (eqOp neg) t x y a b).run P w = .ok () w := by
        intro a b ra rb ha hb hc
        have k1 := z4v ha
        by_cases h2 : a = .nilIface ∧ b = .nilIface
        · obtain ⟨rfl, rfl⟩ := h2
          rcases hc with ⟨z, rfl⟩ | ⟨z, rfl⟩ <;> cases neg <;> simp [eqGuard, eqOp]
        · exact zzg (by intro xs ys ⟨q1, _⟩; subst q1; simp at k1) h2
      split at h
      · rename_i hy
        obtain ⟨b, hb, rfl⟩ := z6a h
        obtain ⟨q1, q2, z, hz⟩ := key x y b hy hb
        refine ⟨?_, .bool _⟩
        simp only [Sem.run_bind, gfin _ _ _ _ q1 q2 (.inr ⟨z, hz⟩), Result.andThen_ok]
        exact (fin b _ _ q1 q2).1
      · split at h
        · rename_i hx
          obtain ⟨b, hb, rfl⟩ := z6a h
          obtain ⟨q1, q2, z, hz⟩ := key y x b hx hb
          refine ⟨?_, .bool _⟩
          simp only [Sem.run_bind, gfin _ _ _ _ q2 q1 (.inl ⟨z, hz⟩), Result.andThen_ok]
          exact (fin b _ _ q1 q2).2
        · cases h
    · cases h
end Go.AM

/- Operations that read and write no memory, together. -/
namespace Go.AM
open Go.RowKit (Below)
variable {P : Program} {ρ : Ren}
theorem zba7 {α : Type} [Inhabited α] (cs : List α) (o : Nat) (x : α) (l : List α) (h : o < cs.length) :
    (cs.set o x).take (o + 1) ++ (l ++ (cs.set o x).drop (o + 1 + l.length)) = cs.take o ++ (x :: l ++ cs.drop (o + (x :: l).length)) := by
  have h1 : (cs.set o x).take (o + 1) = cs.take o ++ [x] := by
    rw [List.take_add_one, List.take_set_of_le (Nat.le_refl _)]
    simp [h]
  have h2 : (cs.set o x).drop (o + 1 + l.length) = cs.drop (o + 1 + l.length) := List.drop_set_of_lt (by omega)
  rw [h1, h2]
  simp [Nat.add_assoc, Nat.add_comm 1]
theorem z6c (off : Nat) : ∀ (l : List V) (k : Nat) (cells : Array V), off + k + l.length ≤ cells.size →
    ((l.zipIdx k).foldl (fun cs (p : V × Nat) => cs.setIfInBounds (off + p.2) p.1) cells).toList = splice cells.toList (off + k) l
  | [], k, cells, h => by simp [splice]
  | x :: l, k, cells, h => by
    have h' : off + k + (l.length + 1) ≤ cells.size := by simpa using h
    simp only [List.zipIdx_cons, List.foldl_cons]
    rw [z6c off l (k + 1) _ (by simp; omega)]
    unfold splice
    have := zba7 cells.toList (off + k) x l (by simp; omega)
    rw [Array.toList_setIfInBounds, ← Nat.add_assoc]
    exact this
theorem zbdn (off : Nat) (v : Array V) (cells : Array V) (h : off + v.size ≤ cells.size) :
    (v.zipIdx.foldl (fun cs (p : V × Nat) => cs.setIfInBounds (off + p.2) p.1) cells).toList = splice cells.toList off v.toList := by
  have := z6c off v.toList 0 cells (by simpa using h)
  rw [← Array.foldl_toList, Array.toList_zipIdx]
  simpa using this
theorem LRel.splice {l l' m m' : List V} (h : LRel ρ l l') (g : LRel ρ m m') (o : Nat) : LRel ρ (splice l o m) (splice l' o m') := by
  unfold AM.splice
  rw [g.length]
  exact (h.take o).append (g.append (h.drop _))
theorem zxm (l : List V) (o : Nat) (m : List V) (h : o + m.length ≤ l.length) : (splice l o m).length = l.length := by
  unfold splice; simp; omega
inductive PRel (ρ : Ren) (place : Nat → Option (Nat × Nat)) : List (Nat × V) → List (Nat × Nat × V) → Prop where
  | nil : PRel ρ place [] []
  | cons {i : Nat} {v u : V} {off size : Nat} {ps : List (Nat × V)} {qs : List (Nat × Nat × V)} : place i = some (off, size) → VRel ρ u v → PRel ρ place ps qs →
      PRel ρ place ((i, v) :: ps) ((off, size, u) :: qs)
theorem z4w (place : Nat → Option (Nat × Nat)) : ∀ {ps : List (Nat × V)} {qs : List (Nat × Nat × V)}, PRel ρ place ps qs → ∀ (cs : List V) (C : Array V) (r : List V),
    LRel ρ cs C.toList → zdm cs qs = some r → ∃ D, Instr.fill place C ps = some D ∧ LRel ρ r D.toList := by
  intro ps qs hp
  induction hp with
  | nil => intro cs C r hc h; simp only [zdm] at h; cases h; exact ⟨C, rfl, hc⟩
  | @cons i v u off size ps qs hpl hv _ ih =>
    intro cs C r hc h
    simp only [zdm] at h
    split at h
    · rename_i hcond
      simp only [Bool.and_eq_true, beq_iff_eq, decide_eq_true_eq] at hcond
      obtain ⟨⟨h1, h2⟩, h3⟩ := hcond
      have hcells := hv.cells h1
      have hl := hcells.length
      have hC := hc.length
      simp only [Array.length_toList] at hl hC
      simp only [Instr.fill, hpl]
      have hz : (decide (v.cells.size ≠ size) || decide (off + v.cells.size > C.size)) = false := by
        simp only [Bool.or_eq_false_iff, decide_eq_false_iff_not, ne_eq, Decidable.not_not]
        omega
      rw [if_neg (by rw [hz]; simp)]
      refine ih (splice cs off u.cells.toList) _ r ?_ h
      rw [zbdn off v.cells C (by omega)]
      exact hc.splice hcells off
    · cases h
theorem zba8 : ∀ (fs : List Field) (pl : List (Nat × Nat)), zyl P fs = some pl → ∀ (w : World),
    (List.mapM (m := Sem) (fun f : Field => do pure (f.offset, ← sizeOf f.type)) fs).run P w = .ok pl w
  | [], pl, h, w => by simp only [zyl] at h; cases h; simp
  | f :: fs, pl, h, w => by
    simp only [zyl] at h
    split at h
    · rename_i n l hn hl
      cases h
      unfold zhn at hn
      split at hn
      · rename_i i hi
        cases hn
        have ih := zba8 fs l hl w
        simp only [List.mapM_cons, Sem.run_bind, sizeOf, typeInfo, run_program, Result.andThen_ok, hi, Sem.run_pure]
        have ih' : (List.mapM (m := Sem) (fun f : Field => do let x ← typeInfo f.type; pure (f.offset, x.size)) fs).run P w = .ok l w := by
          simpa [sizeOf] using ih
        simp only [sizeOf] at ih
        first
          | rw [ih]; simp
          | (simp [typeInfo] at ih ⊢; rw [ih]; simp)
      · cases hn
    · cases h
theorem zbeh {x x' : Option V} {d most n : Nat} (h : zfz d most x = some n) (hx : (x = none ∧ x' = none) ∨ ∃ v v', x = some v ∧ x' = some v' ∧ VRel ρ v v') :
    (x' = none ∧ n = d) ∨ ∃ (k : IntKind) (i : Int), x' = some (.int k i) ∧ 0 ≤ i ∧ i ≤ most ∧ n = i.toNat := by
  unfold zfz at h
  rcases hx with ⟨rfl, rfl⟩ | ⟨v, v', rfl, rfl, hv⟩
  · cases h; exact .inl ⟨rfl, rfl⟩
  · split at h
    · rename_i q; cases q
    · rename_i q; cases q
      split at h
      · rename_i hi; cases h; exact .inr ⟨_, _, by rw [hv.int_inv], hi.1, hi.2, rfl⟩
      · cases h
    · cases h
theorem zsl {k : IntKind} {i : Int} {y : Nat} (code : BoundsCode) (w : World) (h0 : 0 ≤ i) (h1 : i ≤ y) : (Instr.sliceBound (.int k i) y code).run P w = .ok i.toNat w := by
  simp [Instr.sliceBound, asIntOf, h0, h1]
theorem zu9 {isSlice : Bool} {lo hi lo' hi' : Option V} {len cap ccap l h : Nat} (w : World) (hh : zfz len cap hi = some h) (hl : zfz 0 h lo = some l) (hc : cap ≤ ccap)
    (hlo : (lo = none ∧ lo' = none) ∨ ∃ v v', lo = some v ∧ lo' = some v' ∧ VRel ρ v v') (hhi : (hi = none ∧ hi' = none) ∨ ∃ v v', hi = some v ∧ hi' = some v' ∧ VRel ρ v v') :
    (Instr.sliceBounds isSlice len ccap lo' hi' none).run P w = .ok (l, h, ccap) w := by
  rcases zbeh hh hhi with ⟨rfl, rfl⟩ | ⟨k, i, rfl, a1, a2, rfl⟩ <;> rcases zbeh hl hlo with ⟨rfl, rfl⟩ | ⟨k', j, rfl, b1, b2, rfl⟩
  · simp [Instr.sliceBounds]
  · simp [Instr.sliceBounds, zsl _ w b1 b2]
  · simp [Instr.sliceBounds, zsl _ w a1 (show i ≤ (ccap : Int) by omega)]
  · simp [Instr.sliceBounds, zsl _ w a1 (show i ≤ (ccap : Int) by omega), zsl _ w b1 b2]
theorem zyn {d most n : Nat} {x : Option V} (h : zfz d most x = some n) (hd : d ≤ most) : n ≤ most := by
  unfold zfz at h
  split at h
  · cases h; exact hd
  · split at h
    · cases h; omega
    · cases h
  · cases h
theorem zbei {b o u l h m size cm : Nat} {L : Loc} {co : Nat} (hL : ρ b = some L) (ho : co = L.off + o ∨ m = 0) (hu : u = size ∨ u = 0) (hlh : l ≤ h) (hhm : h ≤ m) (hm : m ≤ cm)
    (hs : u = 0 ∨ co + cm * u ≤ L.size) (hmx : u = 0 ∨ cm ≤ 9223372036854775807) :
    VRel ρ (zsv b o u l h m size) (.slice (if cm = l then some ⟨L.blk, co, none⟩ else (some ⟨L.blk, co, none⟩ : Option Addr).map (·.add (l * size))) (h - l) (cm - l)) := by
  have hadd : (⟨L.blk, co, none⟩ : Addr).add (l * size) = ⟨L.blk, co + l * size, none⟩ := by
    unfold Addr.add; split
    · simp_all
    · rfl
  have hmul : l ≤ cm → l * size + (cm - l) * size = cm * size := fun h => by rw [← Nat.add_mul]; congr 1; omega
  unfold zsv
  split
  · rename_i e; subst e
    have : h - m = 0 := by omega
    rw [this]
    split
    · rename_i q
      refine .slc b o u 0 (m - m) L co _ _ hL (.inr (by omega)) (by omega) (by omega) ?_ (.inl rfl) (hmx.imp id fun q => by omega)
      rcases hs with hs | hs
      · exact .inl hs
      · right; rw [q]; simp; omega
    · simp only [Option.map_some, hadd]
      refine .slc b o u 0 (m - m) L _ _ _ hL (.inr (by omega)) (by omega) (by omega) ?_ (.inl rfl) (hmx.imp id fun q => by omega)
      rcases hs with hs | hs
      · exact .inl hs
      · rcases hu with hu | hu
        · subst hu; right; have := hmul hm; omega
        · exact .inl hu
  · rename_i e
    have hlt : l < m := by omega
    rw [if_neg (by omega)]
    simp only [Option.map_some, hadd]
    refine .slc b _ u _ (m - l) L _ _ _ hL (.inl (by rcases ho with ho | ho <;> omega)) (by omega) (by omega) ?_ (.inl rfl) (hmx.imp id fun q => by omega)
    rcases hs with hs | hs
    · exact .inl hs
    · rcases hu with hu | hu
      · subst hu; right; have := hmul (by omega); omega
      · exact .inl hu
theorem zwx {e c : Operand → V} (hr : ∀ z, VRel ρ (e z) (c z)) (x : Option Operand) :
    (optO e x = none ∧ x.map c = none) ∨ ∃ v v', optO e x = some v ∧ x.map c = some v' ∧ VRel ρ v v' := by
  cases x with
  | none => exact .inl ⟨rfl, rfl⟩
  | some x => exact .inr ⟨_, _, rfl, rfl, hr x⟩
theorem zba9 {a a' r : V} {lo hi lo' hi' : Option V} {t : TypeId} (ht : P.underlying t = some .string) (ha : VRel ρ a a')
    (hlo : (lo = none ∧ lo' = none) ∨ ∃ v v', lo = some v ∧ lo' = some v' ∧ VRel ρ v v') (hhi : (hi = none ∧ hi' = none) ∨ ∃ v v', hi = some v ∧ hi' = some v' ∧ VRel ρ v v')
    (h : z54 a lo hi = some r) (w : World) : (Instr.sliceAt t a' lo' hi' none).run P w = .ok r w ∧ VRel ρ r r := by
  unfold z54 at h
  split at h
  · split at h
    · rename_i hh
      split at h
      · rename_i hl
        cases h
        rw [ha.string_inv]
        refine ⟨?_, .string _⟩
        simp [Instr.sliceAt, Instr.slice, run_underlying ht, zu9 (P := P) (isSlice := false) w hh hl (Nat.le_refl _) hlo hhi]
      · cases h
    · cases h
  · cases h
theorem zbjx {a a' r : V} {lo hi lo' hi' : Option V} {t el : TypeId} {size : Nat} (ht : P.underlying t = some (.slice el)) (hsz : zhn P el = some size) (ha : VRel ρ a a')
    (hlo : (lo = none ∧ lo' = none) ∨ ∃ v v', lo = some v ∧ lo' = some v' ∧ VRel ρ v v') (hhi : (hi = none ∧ hi' = none) ∨ ∃ v v', hi = some v ∧ hi' = some v' ∧ VRel ρ v v')
    (h : zjw size a lo hi = some r) : ∃ r', VRel ρ r r' ∧ ∀ w, (Instr.sliceAt t a' lo' hi' none).run P w = .ok r' w := by
  have hs : ∀ w, (sizeOf el).run P w = .ok size w := by
    intro w; unfold zhn at hsz; split at hsz
    · rename_i i hi; cases hsz; simp [sizeOf, typeInfo, hi]
    · cases hsz
  unfold zjw at h
  split at h
  · rename_i x len cap
    split at h
    · rename_i hb hh
      split at h
      · rename_i l hl
        split at h
        · cases h
          cases ha
          have hhb : hb ≤ 0 := zyn hh (Nat.le_refl _)
          have hlb : l ≤ hb := zyn hl (Nat.zero_le _)
          have e1 : hb - l = 0 := by omega
          have e2 : 0 - l = 0 := by omega
          refine ⟨.slice none 0 0, by rw [e1, e2]; exact .snil, fun w => ?_⟩
          simp [Instr.sliceAt, Instr.slice, run_underlying ht, zu9 (P := P) (isSlice := true) w hh hl (Nat.le_refl _) hlo hhi, hs, e1]
        · split at h
          · rename_i hu
            cases h
            obtain ⟨L, co, ccap, ca, hL, rfl, ho, hlen, hcap, hs2, hca, hmx⟩ := ha.slc_inv
            have hhb : hb ≤ cap := zyn hh hlen
            have hlb : l ≤ hb := zyn hl (Nat.zero_le _)
            rcases hca with rfl | h0
            rotate_left
            · subst h0
              obtain rfl : cap = 0 := by omega
              obtain rfl : hb = 0 := by omega
              obtain rfl : l = 0 := by omega
              refine ⟨.slice (some ca) 0 0, ?_, fun w => ?_⟩
              · unfold zsv; rw [if_pos rfl]
                exact .slc _ _ _ 0 0 L co 0 ca hL (.inr rfl) (Nat.le_refl _) (Nat.le_refl _) (hs2.imp id fun q => by omega) (.inr rfl) (.inr (by omega))
              · simp [Instr.sliceAt, Instr.slice, run_underlying ht, zu9 (P := P) (isSlice := true) w hh hl hcap hlo hhi, hs]
            refine ⟨_, zbei hL ho hu hlb hhb hcap hs2 hmx, fun w => ?_⟩
            simp [Instr.sliceAt, Instr.slice, run_underlying ht, zu9 (P := P) (isSlice := true) w hh hl hcap hlo hhi, hs]
          · cases h
        · cases h
      · cases h
    · cases h
  · cases h
theorem zbjy {a a' r : V} {lo hi lo' hi' : Option V} {t el : TypeId} {n size : Nat} (ht : P.underlying t = some (.array n el)) (hsz : zhn P el = some size) (ha : VRel ρ a a')
    (hlo : (lo = none ∧ lo' = none) ∨ ∃ v v', lo = some v ∧ lo' = some v' ∧ VRel ρ v v') (hhi : (hi = none ∧ hi' = none) ∨ ∃ v v', hi = some v ∧ hi' = some v' ∧ VRel ρ v v')
    (h : subA n size a lo hi = some r) : ∃ r', VRel ρ r r' ∧ ∀ w, (Instr.sliceAt t a' lo' hi' none).run P w = .ok r' w := by
  have hs : ∀ w, (sizeOf el).run P w = .ok size w := by
    intro w; unfold zhn at hsz; split at hsz
    · rename_i i hi; cases hsz; simp [sizeOf, typeInfo, hi]
    · cases hsz
  unfold subA at h
  split at h
  · split at h
    · rename_i hb hh
      split at h
      · rename_i l hl
        cases h
        obtain ⟨L, hL, rfl⟩ := ha.ptr_inv
        have hhb : hb ≤ n := zyn hh (Nat.le_refl _)
        have hlb : l ≤ hb := zyn hl (Nat.zero_le _)
        refine ⟨_, zbei (size := size) (cm := n) hL (.inl rfl) (.inr rfl) hlb hhb (Nat.le_refl _) (.inl rfl) (.inl rfl), fun w => ?_⟩
        simp [Instr.sliceAt, Instr.sureAddr, run_underlying ht, zu9 (P := P) (isSlice := false) w hh hl (Nat.le_refl _) hlo hhi, hs]
        split <;> rfl
      · cases h
    · cases h
  · cases h
end Go.AM
