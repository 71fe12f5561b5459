import Derived.Test.YtcmimkacafphkaaGreatDoorCoP
import Derived.Test.YtcmimkacafphkaaGreatDoorAmOwnF
import Derived.Test.YtcmimkacafphkaaGreatDoorAmOpenF
import Derived.Test.YtcmimkacafphkaaGreatDoorProg
import Derived.WalkKit
import Derived.LaidEql
import Derived.Stop.Asserts
import Derived.RowKitTokens
set_option linter.all false
/- code: an image of its own (written by genco.py) -/
set_option maxHeartbeats 16000000
namespace Go.AM.Cap
open Go.AM Go.Proofs

theorem chk_slc {α : Type} [Flat α] {H : Heap} {v : V} {l : List α} (h : Sl H v l) : chkO (some v) v = true := by
  rcases h with ⟨rfl, _⟩ | ⟨b, o, u, c, rfl, _⟩ <;> simp [chkO, vEq, vEq.vEq1]
end Go.AM.Cap

/- code: what is put behind; CodeOwn on the machine -/
set_option maxHeartbeats 16000000
namespace Go.AM.Cap
open Go.AM Go.Proofs

theorem check_zero {p : PIm} : (checkS p).2 = 0 ↔ SoundP p ∧ ∀ i ∈ p.code, mayB p.types p.code.length i = true := by
  unfold checkS
  by_cases hs : SoundP p
  · rw [if_pos hs]
    cases hi : idxP (fun i => !mayB p.types p.code.length i) p.code with
    | none =>
      rw [idxP_none] at hi
      simp only [true_iff]
      exact ⟨hs, fun i hm => by have := hi i hm; simpa using this⟩
    | some j =>
      obtain ⟨h1, h2, _⟩ := idxP_spec (d := default) hi
      refine ⟨fun q => absurd q (by show ¬ ((130 : Int) = 0); decide), fun q => ?_⟩
      have := q.2 _ (getD_mem' (d := default) h1)
      rw [this] at h2
      cases h2
  · rw [if_neg hs]
    exact ⟨fun q => absurd q (by show ¬ ((130 : Int) = 0); decide), fun q => absurd q.1 hs⟩
theorem check_code (p : PIm) : (checkS p).2 = 0 ∨ (checkS p).2 = 130 := by
  unfold checkS
  split
  · split
    · exact .inr rfl
    · exact .inl rfl
  · exact .inr rfl
end Go.AM.Cap

/- code: CodeOwn on the machine -/
set_option maxHeartbeats 16000000
namespace Go.AM.Cap
open Go.AM Go.Proofs

end Go.AM.Cap

/- wire: errors.As at a target of type *broken: what it does. -/
set_option maxHeartbeats 8000000
namespace Go.Proofs.YtcmimkacafphkaaGreatDoor.AsWalk
open Go.RowKit Go.Extern.Stop Go.Stop Go.Extern Go.Proofs

/-- errors.As(nil, target). -/
theorem as_nil (t : Value) (w : World) : Calls Tryz.prog 113 #[.nilIface, t] w fun e w' => e = .returned (.bool false) ∧ w' = w := by
  go_enter Tryz.func113, Tryz.ntmps113
  go_wp2
  go_ret
  exact ⟨rfl, rfl⟩

/-! closed facts on the model's entries for internal/reflectlite, at this program's types -/
theorem valueOfP (t : Addr) (w : World) : (ReflectliteValue.unpack (.iface 149 (.pointer (some t)))).run Tryz.prog w
    = .ok (.agg #[.pointer (some ⟨8, 149, none⟩), .pointer (some ⟨w.heap.size, 0, none⟩), .int .u64 150]) (w.alloc (.cells #[.pointer (some t)] 149)) := by kernel_rfl
theorem typeP (a : Addr) (w : World) : (ReflectliteValue.methodAny (ReflectliteValue.valueError "reflectlite.Value.Type" 0) (fun t _ _ _ => ReflectliteType.toType t) #[.agg #[.pointer (some ⟨8, 149, none⟩), .pointer (some a), .int .u64 150]]).run Tryz.prog w
    = .ok (.iface 189 (.agg #[.pointer (some ⟨8, 149, none⟩)])) w := by kernel_rfl
theorem methodKind (h : Value) (w : World) : (Go.method 343 189 (.agg #[h]) "Kind").run Tryz.prog w = .ok (188, h) w := by kernel_rfl
theorem kindP (w : World) : ((ReflectliteType.abiMethod fun t => (fun a : Nat => Value.int IntKind.u8 (a : Int)) <$> Rtype.kind t) #[.pointer (some ⟨8, 149, none⟩)]).run Tryz.prog w = .ok (.int .u8 22) w := by kernel_rfl
theorem kindB (w : World) : ((ReflectliteType.abiMethod fun t => (fun a : Nat => Value.int IntKind.u8 (a : Int)) <$> Rtype.kind t) #[.pointer (some ⟨8, 147, none⟩)]).run Tryz.prog w = .ok (.int .u8 25) w := by kernel_rfl
theorem rlm (z : Sem Value) (f : TypeId → Addr → Nat → Nat → Sem Value) (v : Value) :
    ReflectliteValue.method z f #[v] = (do match ← ReflectliteValue.parts v with | none => z | some (t, a, fl) => f t a fl (fl % 32)) := rfl
theorem partsP (a : Addr) (w : World) : (ReflectliteValue.parts (.agg #[.pointer (some ⟨8, 149, none⟩), .pointer (some a), .int .u64 150])).run Tryz.prog w = .ok (some (149, a, 150)) w := by kernel_rfl
theorem isNilP (a p : Addr) (W : World) (ha : W.cell? a = some (.pointer (some p))) :
    (ReflectliteValue.method (ReflectliteValue.valueError "reflectlite.Value.IsNil" 0) ReflectliteValue.isNil #[.agg #[.pointer (some ⟨8, 149, none⟩), .pointer (some a), .int .u64 150]]).run Tryz.prog W = .ok (.bool false) W := by
  rw [rlm]
  simp only [Sem.run_bind, partsP, Result.andThen]
  simp [ReflectliteValue.isNil, loadVar, isAgg, underlying, Tryz.underlying149, ha, Result.andThen]
theorem methodElem (h : Value) (w : World) : (Go.method 343 189 (.agg #[h]) "Elem").run Tryz.prog w = .ok (199, .agg #[h]) w := by kernel_rfl
theorem methodImplements (h : Value) (w : World) : (Go.method 343 189 (.agg #[h]) "Implements").run Tryz.prog w = .ok (200, .agg #[h]) w := by kernel_rfl
theorem methodAssignableTo (h : Value) (w : World) : (Go.method 343 189 (.agg #[h]) "AssignableTo").run Tryz.prog w = .ok (197, .agg #[h]) w := by kernel_rfl
theorem elemP (w : World) : (ReflectliteType.method ReflectliteType.elem #[.agg #[.pointer (some ⟨8, 149, none⟩)]]).run Tryz.prog w = .ok (.iface 189 (.agg #[.pointer (some ⟨8, 147, none⟩)])) w := by kernel_rfl
theorem implementsB (w : World) : (ReflectliteType.relation "Implements" ReflectliteType.implements_ #[.agg #[.pointer (some ⟨8, 147, none⟩)], .iface 189 (.agg #[.pointer (some ⟨8, 92, none⟩)])]).run Tryz.prog w = .ok (.bool true) w := by kernel_rfl
theorem typeOfB (v : Value) (w : World) : (ReflectliteType.typeOf #[.iface 147 v]).run Tryz.prog w = .ok (.iface 189 (.agg #[.pointer (some ⟨8, 147, none⟩)])) w := by kernel_rfl
theorem assignableB (w : World) : (ReflectliteType.relation "AssignableTo" ReflectliteType.assignableTo #[.agg #[.pointer (some ⟨8, 147, none⟩)], .iface 189 (.agg #[.pointer (some ⟨8, 147, none⟩)])]).run Tryz.prog w = .ok (.bool true) w := by kernel_rfl
theorem valueOfB (x y : Value) (w : World) : (ReflectliteValue.unpack (.iface 147 (.agg #[x, y]))).run Tryz.prog w
    = .ok (.agg #[.pointer (some ⟨8, 147, none⟩), .pointer (some ⟨w.heap.size, 0, none⟩), .int .u64 153]) (w.alloc (.cells #[x, y] 147)) := by kernel_rfl
theorem elemOfP (w : World) : (Rtype.elem? 149).run Tryz.prog w = .ok (some 147) w := by kernel_rfl
theorem mkB (p : Addr) (w : World) : (ReflectliteValue.mk 147 p ReflectliteValue.flagAddr).run Tryz.prog w = .ok (.agg #[.pointer (some ⟨8, 147, none⟩), .pointer (some p), .int .u64 409]) w := by kernel_rfl
theorem elemVP (a p : Addr) (W : World) (ha : W.cell? a = some (.pointer (some p))) :
    (ReflectliteValue.method (ReflectliteValue.valueError "reflectlite.Value.Elem" 0) ReflectliteValue.elem #[.agg #[.pointer (some ⟨8, 149, none⟩), .pointer (some a), .int .u64 150]]).run Tryz.prog W
      = .ok (.agg #[.pointer (some ⟨8, 147, none⟩), .pointer (some p), .int .u64 409]) W := by
  rw [rlm]
  simp only [Sem.run_bind, partsP, Result.andThen]
  simp [ReflectliteValue.elem, loadVar, isAgg, underlying, Tryz.underlying149, ha, Result.andThen, elemOfP, mkB]
theorem rls (v x : Value) : ReflectliteValue.set #[v, x] = (do
    let (some (dst, a, fl), some (src, b, _)) := (← ReflectliteValue.parts v, ← ReflectliteValue.parts x)
      | unsupported (.noEntry "extern/(internal/reflectlite.Value).Set.zeroValue")
    if fl / ReflectliteValue.flagAddr % 2 == 0 then unsupported (.noEntry "extern/(internal/reflectlite.Value).Set.unaddressable")
    let val ← loadVar src b
    if ← Rtype.directlyAssignable dst src then storeVar dst a val
    else if ← Rtype.implements dst src then
      if (← Rtype.kind src) == 20 then
        match val with
        | .nilIface => unsupported (.noEntry "extern/reflectlite: a nil value of one interface type handed on as a value of another")
        | _ => storeVar dst a val
      else storeVar dst a (.iface src val)
    else panicString ("reflectlite.Set: value of type " ++ (← Rtype.spelt src) ++ " is not assignable to type " ++ (← Rtype.spelt dst))
    pure (.tuple #[])) := rfl
theorem partsBa (a : Addr) (w : World) : (ReflectliteValue.parts (.agg #[.pointer (some ⟨8, 147, none⟩), .pointer (some a), .int .u64 409])).run Tryz.prog w = .ok (some (147, a, 409)) w := by kernel_rfl
theorem partsB (a : Addr) (w : World) : (ReflectliteValue.parts (.agg #[.pointer (some ⟨8, 147, none⟩), .pointer (some a), .int .u64 153])).run Tryz.prog w = .ok (some (147, a, 153)) w := by kernel_rfl
theorem directB (w : World) : (Rtype.directlyAssignable 147 147).run Tryz.prog w = .ok true w := by kernel_rfl
/-- (Value).Set: the variable at ta gets what the Value's own variable b holds. -/
theorem setB (ta b : Addr) (v : Value) (W W' : World) (hb : (loadVar 147 b).run Tryz.prog W = .ok v W) (hs : (storeVar 147 ta v).run Tryz.prog W = .ok () W') :
    (ReflectliteValue.set #[.agg #[.pointer (some ⟨8, 147, none⟩), .pointer (some ta), .int .u64 409], .agg #[.pointer (some ⟨8, 147, none⟩), .pointer (some b), .int .u64 153]]).run Tryz.prog W = .ok (.tuple #[]) W' := by
  rw [rls]
  simp only [Sem.run_bind, partsBa, partsB, Result.andThen]
  simp [ReflectliteValue.flagAddr, hb, Result.andThen, directB, hs]

/-- the four blocks that errors.As lays -/
def grown (w : World) (t : Addr) (x y : Value) : World :=
  (((w.alloc (.cells #[.pointer (some t)] 149)).alloc (.cells #[.pointer (some ⟨8, 149, none⟩), .pointer (some ⟨w.heap.size, 0, none⟩), .int .u64 150] 169)).alloc (.cells #[.pointer (some ⟨8, 149, none⟩), .pointer (some ⟨w.heap.size, 0, none⟩), .int .u64 150] 169)).alloc (.cells #[x, y] 147)

set_option maxRecDepth 100000 in
theorem as_hit (t : Addr) (x y : Value) (w W' : World) (hg : w.cell? ⟨2, 0, none⟩ = some (.iface 189 (.agg #[.pointer (some ⟨8, 92, none⟩)])))
    (hl : (loadVar 147 ⟨w.heap.size + 1 + 1 + 1, 0, none⟩).run Tryz.prog (grown w t x y) = .ok (.agg #[x, y]) (grown w t x y)) (hs : (storeVar 147 t (.agg #[x, y])).run Tryz.prog (grown w t x y) = .ok () W') :
    Calls Tryz.prog 113 #[.iface 147 (.agg #[x, y]), .iface 149 (.pointer (some t))] w fun ev w' => ev = .returned (.bool true) ∧ w' = W' := by
  have h6 := @run_callFunc_extern Tryz.prog 125 _ (fun args => ReflectliteValue.unpack (args.getD 0 (.tuple #[]))) Tryz.func125 (by kernel_rfl) (by kernel_rfl) (by kernel_rfl) (by kernel_rfl)
  have h7 := @run_callFunc_extern Tryz.prog 126 _ (ReflectliteValue.methodAny (ReflectliteValue.valueError "reflectlite.Value.Type" 0) (fun t _ _ _ => ReflectliteType.toType t)) Tryz.func126 (by kernel_rfl) (by kernel_rfl) (by kernel_rfl) (by kernel_rfl)
  have h8 := @run_callFunc_extern Tryz.prog 127 _ (ReflectliteValue.method (ReflectliteValue.valueError "reflectlite.Value.IsNil" 0) ReflectliteValue.isNil) Tryz.func127 (by kernel_rfl) (by kernel_rfl) (by kernel_rfl) (by kernel_rfl)
  have h27 := @run_callFunc_extern Tryz.prog 188 _ (ReflectliteType.abiMethod fun t => do pure (.int .u8 (← Rtype.kind t))) Tryz.func188 (by kernel_rfl) (by kernel_rfl) (by kernel_rfl) (by kernel_rfl)
  have h37 := @run_callFunc_extern Tryz.prog 199 _ (ReflectliteType.method ReflectliteType.elem) Tryz.func199 (by kernel_rfl) (by kernel_rfl) (by kernel_rfl) (by kernel_rfl)
  have h38 := @run_callFunc_extern Tryz.prog 200 _ (ReflectliteType.relation "Implements" ReflectliteType.implements_) Tryz.func200 (by kernel_rfl) (by kernel_rfl) (by kernel_rfl) (by kernel_rfl)
  have h10 := @run_callFunc_extern Tryz.prog 156 _ ReflectliteType.typeOf Tryz.func156 (by kernel_rfl) (by kernel_rfl) (by kernel_rfl) (by kernel_rfl)
  have h35 := @run_callFunc_extern Tryz.prog 197 _ (ReflectliteType.relation "AssignableTo" ReflectliteType.assignableTo) Tryz.func197 (by kernel_rfl) (by kernel_rfl) (by kernel_rfl) (by kernel_rfl)
  have h11 := @run_callFunc_extern Tryz.prog 157 _ (ReflectliteValue.method (ReflectliteValue.valueError "reflectlite.Value.Elem" 0) ReflectliteValue.elem) Tryz.func157 (by kernel_rfl) (by kernel_rfl) (by kernel_rfl) (by kernel_rfl)
  have h12 := @run_callFunc_extern Tryz.prog 158 _ ReflectliteValue.set Tryz.func158 (by kernel_rfl) (by kernel_rfl) (by kernel_rfl) (by kernel_rfl)
  have tO := typeOfB
  have mA := methodAssignableTo
  have a25 := assignableB
  have v25 := valueOfB
  have f6 := valueOfP
  have f7 := typeP
  have mK := methodKind
  have mE := methodElem
  have mI := methodImplements
  have k27 := kindP
  have k25 := kindB
  have e27 := elemP
  have i25 := implementsB
  have n8 := isNilP ⟨w.heap.size, 0, none⟩ t ((w.alloc (.cells #[.pointer (some t)] 149)).alloc (.cells #[.pointer (some ⟨8, 149, none⟩), .pointer (some ⟨w.heap.size, 0, none⟩), .int .u64 150] 169)) (by simp)
  have hlt : 2 < w.heap.size := by
    by_cases q : 2 < w.heap.size
    · exact q
    · have e : w.heap[2]? = none := Array.getElem?_eq_none (by omega)
      simp [World.cell?, e] at hg
  have hg2 : ((w.alloc (.cells #[.pointer (some t)] 149)).alloc (.cells #[.pointer (some ⟨8, 149, none⟩), .pointer (some ⟨w.heap.size, 0, none⟩), .int .u64 150] 169)).cell? ⟨2, 0, none⟩ = some (.iface 189 (.agg #[.pointer (some ⟨8, 92, none⟩)])) := by
    rw [World.cell?_alloc_lt _ _ ⟨2, 0, none⟩ (by simp; omega), World.cell?_alloc_lt _ _ ⟨2, 0, none⟩ hlt]; exact hg
  have el := elemVP ⟨w.heap.size, 0, none⟩ t (((w.alloc (.cells #[.pointer (some t)] 149)).alloc (.cells #[.pointer (some ⟨8, 149, none⟩), .pointer (some ⟨w.heap.size, 0, none⟩), .int .u64 150] 169)).alloc (.cells #[.pointer (some ⟨8, 149, none⟩), .pointer (some ⟨w.heap.size, 0, none⟩), .int .u64 150] 169)) (by rw [World.cell?_alloc_lt _ _ ⟨w.heap.size, 0, none⟩ (by simp; omega)]; simp)
  have st := setB t ⟨w.heap.size + 1 + 1 + 1, 0, none⟩ (.agg #[x, y]) (grown w t x y) W' hl hs
  unfold grown at st
  go_enter Tryz.func113, Tryz.ntmps113
  go_wp2
  refine wp_loop_rounds 1 ?_
  rw [rounds_succ]
  go_wp2
  go_ret
  exact ⟨rfl, rfl⟩
end Go.Proofs.YtcmimkacafphkaaGreatDoor.AsWalk
