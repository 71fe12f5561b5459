import Derived.Test.YtehhkminlafeiaaGreatDoorMacA
import Derived.Test.YtehhkminlafeiaaGreatDoorAmOpenF
import Derived.Test.YtehhkminlafeiaaGreatDoorProg
import Derived.WalkKit
import Derived.LaidEql
import Derived.Stop.Asserts
import Derived.RowKitTokens
set_option linter.all false
/- mac: the laws -/
namespace Go.AM.Cap
open Go.AM Go.Proofs
abbrev big : Nat := 1073741824
theorem zbqu (H : Heap) (k m : ByteArray) (hks : k.size ≤ 1099511627776) (hms : m.size ≤ 1073741824) (hb : Base H) (Q : V → Heap → Prop) (hQ : ∀ H', Keeps [] H H' → Q (.string (sv (tag (bv k) (bv m)))) H') : wp (zyv [.string k, .string m]) Q H := by
  show wp (z4j (.string k) (.string m)) Q H
  simp only [z4j, zk]
  refine z4q H k m hks hms hb _ fun H1 k1 => ?_
  (try simp (maxSteps := 1000000) (disch := first | omega | (simp only [Z3]; omega) | (simp; done) | assumption | decide | (refine not_not_intro ?_; assumption)) only [Z1])
  exact hQ _ k1
def zbjz (k m t : ByteArray) : Int := if sv (tag (bv k) (bv m)) = t then 0 else 20
theorem zbod (H : Heap) (k m t : ByteArray) (hks : k.size ≤ 1099511627776) (hms : m.size ≤ 1073741824) (hb : Base H) (Q : V → Heap → Prop) (hQ : ∀ H', Keeps [] H H' → Q (i64 (zbjz k m t)) H') : wp (zvh [.string k, .string m, .string t]) Q H := by
  show wp (z0q (.string k) (.string m) (.string t)) Q H
  simp only [z0q, zk]
  refine z4q H k m hks hms hb _ fun H1 k1 => ?_
  have h32 : (sv (tag (bv k) (bv m))).size = 32 := by rw [zgw, zoq]
  rw [zbd5 _ _ (by omega)]
  by_cases h : sv (tag (bv k) (bv m)) = t
  · (try simp (maxSteps := 1000000) (disch := first | omega | (simp only [Z3]; omega) | (simp; done) | assumption | decide | (refine not_not_intro ?_; assumption)) only [Z1, Z2, splice, zbdr])
    have := hQ H1 k1
    rw [zbjz, if_pos h] at this
    exact this
  · (try simp (maxSteps := 1000000) (disch := first | omega | (simp only [Z3]; omega) | (simp; done) | assumption | decide | (refine not_not_intro ?_; assumption)) only [Z1])
    have := hQ H1 k1
    rw [zbjz, if_neg h] at this
    exact this
def body (s : ByteArray) : ByteArray := s.extract 0 (s.size - 32)
def foot (s : ByteArray) : ByteArray := s.extract (s.size - 32) s.size
def zzr (k s : ByteArray) : ByteArray × Int := if 32 ≤ s.size ∧ sv (tag (bv k) (bv (body s))) = foot s then (body s, 0) else (⟨#[]⟩, 20)
theorem zbmd {s : ByteArray} (h : 32 ≤ s.size) : (body s).size = s.size - 32 := by rw [body, zr9 _ (by omega)]; omega
theorem zbqv (H : Heap) (k s : ByteArray) (hks : k.size ≤ 1099511627776) (hms : s.size ≤ 1073741824) (hb : Base H) (Q : V → Heap → Prop) (hQ : ∀ H', Keeps [] H H' → Q (.tuple #[.string (zzr k s).1, i64 (zzr k s).2]) H') : wp (zub [.string k, .string s]) Q H := by
  show wp (zy1 (.string k) (.string s)) Q H
  by_cases h : (s.size : Int) < 32
  · (try simp (maxSteps := 1000000) (disch := first | omega | (simp only [Z3]; omega) | (simp; done) | assumption | decide | (refine not_not_intro ?_; assumption)) only [Z1, zy1])
    have := hQ H (Keeps.refl _ _)
    rw [zzr, if_neg (by omega)] at this
    exact this
  · have e1 : ((s.size : Int) - 32).toNat = s.size - 32 := by omega
    (try simp (maxSteps := 1000000) (disch := first | omega | (simp only [Z3]; omega) | (simp; done) | assumption | decide | (refine not_not_intro ?_; assumption)) only [Z1, zy1, zbgd, zbca, zbg7, e1])
    refine zbod H k _ _ hks (by have := zbmd (s := s) (by omega); unfold body at this; omega) hb _ fun H1 k1 => ?_
    have q := hQ H1 k1
    by_cases h2 : sv (tag (bv k) (bv (body s))) = foot s
    · rw [zzr, if_pos ⟨by omega, h2⟩] at q
      have ec : zbjz k (s.extract 0 (s.size - 32)) (s.extract (s.size - 32) s.size) = 0 := if_pos h2
      (try simp (maxSteps := 1000000) (disch := first | omega | (simp only [Z3]; omega) | (simp; done) | assumption | decide | (refine not_not_intro ?_; assumption)) only [Z1, ec, zbgc, zbca, e1])
      exact q
    · rw [zzr, if_neg (fun hh => h2 hh.2)] at q
      have ec : zbjz k (s.extract 0 (s.size - 32)) (s.extract (s.size - 32) s.size) = 20 := if_neg h2
      (try simp (maxSteps := 1000000) (disch := first | omega | (simp only [Z3]; omega) | (simp; done) | assumption | decide | (refine not_not_intro ?_; assumption)) only [Z1, ec])
      exact q
def zbam (k m : ByteArray) : ByteArray := m ++ sv (tag (bv k) (bv m))
theorem z3g (k m : ByteArray) : (zbam k m).size = m.size + 32 := by rw [zbam, size_append, zgw, zoq]
theorem zbqw (H : Heap) (k m : ByteArray) (hks : k.size ≤ 1099511627776) (hms : m.size ≤ 1073741824) (hb : Base H) (Q : V → Heap → Prop) (hQ : ∀ H', Keeps [] H H' → Q (.string (zbam k m)) H') : wp (zza [.string k, .string m]) Q H := by
  show wp (z4o (.string k) (.string m)) Q H
  simp only [z4o, zk]
  refine z4q H k m hks hms hb _ fun H1 k1 => ?_
  have h32 : (sv (tag (bv k) (bv m))).size = 32 := by rw [zgw, zoq]
  (try simp (maxSteps := 1000000) (disch := first | omega | (simp only [Z3]; omega) | (simp; done) | assumption | decide | (refine not_not_intro ?_; assumption)) only [Z1, zm3 (show m.size + (sv (tag (bv k) (bv m))).size ≤ 4611686018427387904 by omega)])
  exact hQ _ k1
theorem zbme (k m : ByteArray) : body (zbam k m) = m := by
  apply z1g
  rw [body, zi4, List.drop_zero, z3g, zbam, zox, Nat.sub_zero, Nat.add_sub_cancel, ← zb7, List.take_left']
  rfl
theorem zbv1 (k m : ByteArray) : foot (zbam k m) = sv (tag (bv k) (bv m)) := by
  apply z1g
  rw [foot, zi4, z3g, zbam, zox, Nat.add_sub_cancel, ← zb7 m, List.drop_left', zlq, List.take_of_length_le (by rw [zoq]; omega)]
  rfl
end Go.AM.Cap

/- wire: errors.As at a target of type *broken: what it does. -/
set_option maxHeartbeats 8000000
namespace Go.Proofs.YtehhkminlafeiaaGreatDoor.AsWalk
open Go.RowKit Go.Extern.Stop Go.Stop Go.Extern Go.Proofs
theorem as_nil (t : Value) (w : World) : Calls Tryz.prog 102 #[.nilIface, t] w fun e w' => e = .returned (.bool false) ∧ w' = w := by
  go_enter Tryz.func102, Tryz.ntmps102
  go_wp2
  go_ret
  exact ⟨rfl, rfl⟩
theorem valueOfP (t : Addr) (w : World) : (ReflectliteValue.unpack (.iface 163 (.pointer (some t)))).run Tryz.prog w
    = .ok (.agg #[.pointer (some ⟨6, 163, none⟩), .pointer (some ⟨w.heap.size, 0, none⟩), .int .u64 150]) (w.alloc (.cells #[.pointer (some t)] 163)) := by kernel_rfl
theorem typeP (a : Addr) (w : World) : (ReflectliteValue.methodAny (ReflectliteValue.valueError "reflectlite.Value.Type" 0) (fun t _ _ _ => ReflectliteType.toType t) #[.agg #[.pointer (some ⟨6, 163, none⟩), .pointer (some a), .int .u64 150]]).run Tryz.prog w
    = .ok (.iface 204 (.agg #[.pointer (some ⟨6, 163, none⟩)])) w := by kernel_rfl
theorem methodKind (h : Value) (w : World) : (Go.method 357 204 (.agg #[h]) "Kind").run Tryz.prog w = .ok (158, h) w := by kernel_rfl
theorem kindP (w : World) : ((ReflectliteType.abiMethod fun t => (fun a : Nat => Value.int IntKind.u8 (a : Int)) <$> Rtype.kind t) #[.pointer (some ⟨6, 163, none⟩)]).run Tryz.prog w = .ok (.int .u8 22) w := by kernel_rfl
theorem kindB (w : World) : ((ReflectliteType.abiMethod fun t => (fun a : Nat => Value.int IntKind.u8 (a : Int)) <$> Rtype.kind t) #[.pointer (some ⟨6, 161, none⟩)]).run Tryz.prog w = .ok (.int .u8 25) w := by kernel_rfl
theorem rlm (z : Sem Value) (f : TypeId → Addr → Nat → Nat → Sem Value) (v : Value) :
    ReflectliteValue.method z f #[v] = (do match ← ReflectliteValue.parts v with | none => z | some (t, a, fl) => f t a fl (fl % 32)) := rfl
theorem partsP (a : Addr) (w : World) : (ReflectliteValue.parts (.agg #[.pointer (some ⟨6, 163, none⟩), .pointer (some a), .int .u64 150])).run Tryz.prog w = .ok (some (163, a, 150)) w := by kernel_rfl
theorem isNilP (a p : Addr) (W : World) (ha : W.cell? a = some (.pointer (some p))) :
    (ReflectliteValue.method (ReflectliteValue.valueError "reflectlite.Value.IsNil" 0) ReflectliteValue.isNil #[.agg #[.pointer (some ⟨6, 163, none⟩), .pointer (some a), .int .u64 150]]).run Tryz.prog W = .ok (.bool false) W := by
  rw [rlm]
  simp only [Sem.run_bind, partsP, Result.andThen]
  simp [ReflectliteValue.isNil, loadVar, isAgg, underlying, Tryz.underlying163, ha, Result.andThen]
theorem methodElem (h : Value) (w : World) : (Go.method 357 204 (.agg #[h]) "Elem").run Tryz.prog w = .ok (169, .agg #[h]) w := by kernel_rfl
theorem methodImplements (h : Value) (w : World) : (Go.method 357 204 (.agg #[h]) "Implements").run Tryz.prog w = .ok (170, .agg #[h]) w := by kernel_rfl
theorem methodAssignableTo (h : Value) (w : World) : (Go.method 357 204 (.agg #[h]) "AssignableTo").run Tryz.prog w = .ok (167, .agg #[h]) w := by kernel_rfl
theorem elemP (w : World) : (ReflectliteType.method ReflectliteType.elem #[.agg #[.pointer (some ⟨6, 163, none⟩)]]).run Tryz.prog w = .ok (.iface 204 (.agg #[.pointer (some ⟨6, 161, none⟩)])) w := by kernel_rfl
theorem implementsB (w : World) : (ReflectliteType.relation "Implements" ReflectliteType.implements_ #[.agg #[.pointer (some ⟨6, 161, none⟩)], .iface 204 (.agg #[.pointer (some ⟨6, 128, none⟩)])]).run Tryz.prog w = .ok (.bool true) w := by kernel_rfl
theorem typeOfB (v : Value) (w : World) : (ReflectliteType.typeOf #[.iface 161 v]).run Tryz.prog w = .ok (.iface 204 (.agg #[.pointer (some ⟨6, 161, none⟩)])) w := by kernel_rfl
theorem assignableB (w : World) : (ReflectliteType.relation "AssignableTo" ReflectliteType.assignableTo #[.agg #[.pointer (some ⟨6, 161, none⟩)], .iface 204 (.agg #[.pointer (some ⟨6, 161, none⟩)])]).run Tryz.prog w = .ok (.bool true) w := by kernel_rfl
theorem valueOfB (x y : Value) (w : World) : (ReflectliteValue.unpack (.iface 161 (.agg #[x, y]))).run Tryz.prog w
    = .ok (.agg #[.pointer (some ⟨6, 161, none⟩), .pointer (some ⟨w.heap.size, 0, none⟩), .int .u64 153]) (w.alloc (.cells #[x, y] 161)) := by kernel_rfl
theorem elemOfP (w : World) : (Rtype.elem? 163).run Tryz.prog w = .ok (some 161) w := by kernel_rfl
theorem mkB (p : Addr) (w : World) : (ReflectliteValue.mk 161 p ReflectliteValue.flagAddr).run Tryz.prog w = .ok (.agg #[.pointer (some ⟨6, 161, none⟩), .pointer (some p), .int .u64 409]) w := by kernel_rfl
theorem elemVP (a p : Addr) (W : World) (ha : W.cell? a = some (.pointer (some p))) :
    (ReflectliteValue.method (ReflectliteValue.valueError "reflectlite.Value.Elem" 0) ReflectliteValue.elem #[.agg #[.pointer (some ⟨6, 163, none⟩), .pointer (some a), .int .u64 150]]).run Tryz.prog W
      = .ok (.agg #[.pointer (some ⟨6, 161, none⟩), .pointer (some p), .int .u64 409]) W := by
  rw [rlm]
  simp only [Sem.run_bind, partsP, Result.andThen]
  simp [ReflectliteValue.elem, loadVar, isAgg, underlying, Tryz.underlying163, ha, Result.andThen, elemOfP, mkB]
theorem rls (v x : Value) : ReflectliteValue.set #[v, x] = (do
    let (some (dst, a, fl), some (src, b, _)) := (← ReflectliteValue.parts v, ← ReflectliteValue.parts x)
      | unsupported (.noEntry "extern/(internal/reflectlite.Value).Set.zeroValue")
    if fl / ReflectliteValue.flagAddr % 2 == 0 then unsupported (.noEntry "extern/(internal/reflectlite.Value).Set.unaddressable")
    let val ← loadVar src b
    if ← Rtype.directlyAssignable dst src then storeVar dst a val
    else if ← Rtype.implements dst src then
      if (← Rtype.kind src) == 20 then
        match val with
        | .nilIface => unsupported (.noEntry "extern/reflectlite: a nil value of one interface type handed on as a value of another")
        | _ => storeVar dst a val
      else storeVar dst a (.iface src val)
    else panicString ("reflectlite.Set: value of type " ++ (← Rtype.spelt src) ++ " is not assignable to type " ++ (← Rtype.spelt dst))
    pure (.tuple #[])) := rfl
theorem partsBa (a : Addr) (w : World) : (ReflectliteValue.parts (.agg #[.pointer (some ⟨6, 161, none⟩), .pointer (some a), .int .u64 409])).run Tryz.prog w = .ok (some (161, a, 409)) w := by kernel_rfl
theorem partsB (a : Addr) (w : World) : (ReflectliteValue.parts (.agg #[.pointer (some ⟨6, 161, none⟩), .pointer (some a), .int .u64 153])).run Tryz.prog w = .ok (some (161, a, 153)) w := by kernel_rfl
theorem directB (w : World) : (Rtype.directlyAssignable 161 161).run Tryz.prog w = .ok true w := by kernel_rfl
theorem setB (ta b : Addr) (v : Value) (W W' : World) (hb : (loadVar 161 b).run Tryz.prog W = .ok v W) (hs : (storeVar 161 ta v).run Tryz.prog W = .ok () W') :
    (ReflectliteValue.set #[.agg #[.pointer (some ⟨6, 161, none⟩), .pointer (some ta), .int .u64 409], .agg #[.pointer (some ⟨6, 161, none⟩), .pointer (some b), .int .u64 153]]).run Tryz.prog W = .ok (.tuple #[]) W' := by
  rw [rls]
  simp only [Sem.run_bind, partsBa, partsB, Result.andThen]
  simp [ReflectliteValue.flagAddr, hb, Result.andThen, directB, hs]
def grown (w : World) (t : Addr) (x y : Value) : World :=
  (((w.alloc (.cells #[.pointer (some t)] 163)).alloc (.cells #[.pointer (some ⟨6, 163, none⟩), .pointer (some ⟨w.heap.size, 0, none⟩), .int .u64 150] 181)).alloc (.cells #[.pointer (some ⟨6, 163, none⟩), .pointer (some ⟨w.heap.size, 0, none⟩), .int .u64 150] 181)).alloc (.cells #[x, y] 161)
set_option maxRecDepth 100000 in
theorem as_hit (t : Addr) (x y : Value) (w W' : World) (hg : w.cell? ⟨1, 0, none⟩ = some (.iface 204 (.agg #[.pointer (some ⟨6, 128, none⟩)])))
    (hl : (loadVar 161 ⟨w.heap.size + 1 + 1 + 1, 0, none⟩).run Tryz.prog (grown w t x y) = .ok (.agg #[x, y]) (grown w t x y)) (hs : (storeVar 161 t (.agg #[x, y])).run Tryz.prog (grown w t x y) = .ok () W') :
    Calls Tryz.prog 102 #[.iface 161 (.agg #[x, y]), .iface 163 (.pointer (some t))] w fun ev w' => ev = .returned (.bool true) ∧ w' = W' := by
  have h6 := @run_callFunc_extern Tryz.prog 112 _ (fun args => ReflectliteValue.unpack (args.getD 0 (.tuple #[]))) Tryz.func112 (by kernel_rfl) (by kernel_rfl) (by kernel_rfl) (by kernel_rfl)
  have h7 := @run_callFunc_extern Tryz.prog 113 _ (ReflectliteValue.methodAny (ReflectliteValue.valueError "reflectlite.Value.Type" 0) (fun t _ _ _ => ReflectliteType.toType t)) Tryz.func113 (by kernel_rfl) (by kernel_rfl) (by kernel_rfl) (by kernel_rfl)
  have h8 := @run_callFunc_extern Tryz.prog 114 _ (ReflectliteValue.method (ReflectliteValue.valueError "reflectlite.Value.IsNil" 0) ReflectliteValue.isNil) Tryz.func114 (by kernel_rfl) (by kernel_rfl) (by kernel_rfl) (by kernel_rfl)
  have h27 := @run_callFunc_extern Tryz.prog 158 _ (ReflectliteType.abiMethod fun t => do pure (.int .u8 (← Rtype.kind t))) Tryz.func158 (by kernel_rfl) (by kernel_rfl) (by kernel_rfl) (by kernel_rfl)
  have h37 := @run_callFunc_extern Tryz.prog 169 _ (ReflectliteType.method ReflectliteType.elem) Tryz.func169 (by kernel_rfl) (by kernel_rfl) (by kernel_rfl) (by kernel_rfl)
  have h38 := @run_callFunc_extern Tryz.prog 170 _ (ReflectliteType.relation "Implements" ReflectliteType.implements_) Tryz.func170 (by kernel_rfl) (by kernel_rfl) (by kernel_rfl) (by kernel_rfl)
  have h10 := @run_callFunc_extern Tryz.prog 128 _ ReflectliteType.typeOf Tryz.func128 (by kernel_rfl) (by kernel_rfl) (by kernel_rfl) (by kernel_rfl)
  have h35 := @run_callFunc_extern Tryz.prog 167 _ (ReflectliteType.relation "AssignableTo" ReflectliteType.assignableTo) Tryz.func167 (by kernel_rfl) (by kernel_rfl) (by kernel_rfl) (by kernel_rfl)
  have h11 := @run_callFunc_extern Tryz.prog 129 _ (ReflectliteValue.method (ReflectliteValue.valueError "reflectlite.Value.Elem" 0) ReflectliteValue.elem) Tryz.func129 (by kernel_rfl) (by kernel_rfl) (by kernel_rfl) (by kernel_rfl)
  have h12 := @run_callFunc_extern Tryz.prog 130 _ ReflectliteValue.set Tryz.func130 (by kernel_rfl) (by kernel_rfl) (by kernel_rfl) (by kernel_rfl)
  have tO := typeOfB
  have mA := methodAssignableTo
  have a25 := assignableB
  have v25 := valueOfB
  have f6 := valueOfP
  have f7 := typeP
  have mK := methodKind
  have mE := methodElem
  have mI := methodImplements
  have k27 := kindP
  have k25 := kindB
  have e27 := elemP
  have i25 := implementsB
  have n8 := isNilP ⟨w.heap.size, 0, none⟩ t ((w.alloc (.cells #[.pointer (some t)] 163)).alloc (.cells #[.pointer (some ⟨6, 163, none⟩), .pointer (some ⟨w.heap.size, 0, none⟩), .int .u64 150] 181)) (by simp)
  have hlt : 1 < w.heap.size := by
    by_cases q : 1 < w.heap.size
    · exact q
    · have e : w.heap[1]? = none := Array.getElem?_eq_none (by omega)
      simp [World.cell?, e] at hg
  have hg2 : ((w.alloc (.cells #[.pointer (some t)] 163)).alloc (.cells #[.pointer (some ⟨6, 163, none⟩), .pointer (some ⟨w.heap.size, 0, none⟩), .int .u64 150] 181)).cell? ⟨1, 0, none⟩ = some (.iface 204 (.agg #[.pointer (some ⟨6, 128, none⟩)])) := by
    rw [World.cell?_alloc_lt _ _ ⟨1, 0, none⟩ (by simp; omega), World.cell?_alloc_lt _ _ ⟨1, 0, none⟩ hlt]; exact hg
  have el := elemVP ⟨w.heap.size, 0, none⟩ t (((w.alloc (.cells #[.pointer (some t)] 163)).alloc (.cells #[.pointer (some ⟨6, 163, none⟩), .pointer (some ⟨w.heap.size, 0, none⟩), .int .u64 150] 181)).alloc (.cells #[.pointer (some ⟨6, 163, none⟩), .pointer (some ⟨w.heap.size, 0, none⟩), .int .u64 150] 181)) (by rw [World.cell?_alloc_lt _ _ ⟨w.heap.size, 0, none⟩ (by simp; omega)]; simp)
  have st := setB t ⟨w.heap.size + 1 + 1 + 1, 0, none⟩ (.agg #[x, y]) (grown w t x y) W' hl hs
  unfold grown at st
  go_enter Tryz.func102, Tryz.ntmps102
  go_wp2
  refine wp_loop_rounds 1 ?_
  rw [rounds_succ]
  go_wp2
  go_ret
  exact ⟨rfl, rfl⟩
end Go.Proofs.YtehhkminlafeiaaGreatDoor.AsWalk
