/- Rules for walks: conditions that are told at once. -/
import Derived.Test.YtfcjpopnibhagaaDoorAmSl
set_option linter.all false
namespace Go.AM

section
variable {p : Prop} [Decidable p]
theorem condM_dt {a b : M Out} (h : p) : condM (.bool (decide p)) a b = a := by simp [h]
theorem condM_df {a b : M Out} (h : ¬ p) : condM (.bool (decide p)) a b = b := by simp [h]
theorem gd_dt {m : M V} (h : p) : gd (.bool (decide p)) true m = m := by simp [h]
theorem gd_df {m : M V} (h : ¬ p) : gd (.bool (decide p)) true m = ret skipV := by simp [h]
theorem gdf_dt {m : M V} (h : p) : gd (.bool (decide p)) false m = ret skipV := by simp [h]
theorem gdf_df {m : M V} (h : ¬ p) : gd (.bool (decide p)) false m = m := by simp [h]
theorem pick_dt {x y : V} (h : p) : pickV (.bool (decide p)) x y = some x := by simp [h]
theorem pick_df {x y : V} (h : ¬ p) : pickV (.bool (decide p)) x y = some y := by simp [h]
theorem not_dec : un .not (.bool (decide p)) = some (.bool (decide (¬ p))) := by simp [un]
end
theorem condM_t (a b : M Out) : condM (.bool true) a b = a := rfl
theorem condM_f (a b : M Out) : condM (.bool false) a b = b := rfl
theorem gd_t (m : M V) : gd (.bool true) true m = m := rfl
theorem gd_f (m : M V) : gd (.bool false) true m = ret skipV := rfl
theorem gdf_t (m : M V) : gd (.bool true) false m = ret skipV := rfl
theorem gdf_f (m : M V) : gd (.bool false) false m = m := rfl
theorem pick_t (x y : V) : pickV (.bool true) x y = some x := rfl
theorem pick_f (x y : V) : pickV (.bool false) x y = some y := rfl
theorem not_t : un .not (.bool true) = some (.bool false) := rfl
theorem not_f : un .not (.bool false) = some (.bool true) := rfl
theorem int_eqd (k : IntKind) (x y : Int) : bin .eql (.int k x) (.int k y) = some (.bool (decide (x = y))) := by
  simp [bin, ibin, BEq.beq]
theorem int_ned (k : IntKind) (x y : Int) : bin .neq (.int k x) (.int k y) = some (.bool (decide (x ≠ y))) := by
  simp [bin, ibin, bne, BEq.beq]
theorem str_eqd (x y : ByteArray) : bin .eql (.string x) (.string y) = some (.bool (decide (x = y))) := rfl
theorem str_ned (x y : ByteArray) : bin .neq (.string x) (.string y) = some (.bool (decide (x ≠ y))) := by simp [bin, sbin]
theorem wp_pt {P : Prop} [Decidable P] {α : Type} {a b : M α} {Q : α → Heap → Prop} {H : Heap} (h : P) : wp (if P then a else b) Q H ↔ wp a Q H := by simp [h]
theorem wp_pf {P : Prop} [Decidable P] {α : Type} {a b : M α} {Q : α → Heap → Prop} {H : Heap} (h : ¬ P) : wp (if P then a else b) Q H ↔ wp b Q H := by simp [h]
theorem isNil_p (a : Option Addr) (n : Bool) : notIf n (isNil .p (.pointer a)) = some (.bool (if n then !a.isNone else a.isNone)) := rfl
@[simp] theorem isNil_ptr (b o : Nat) : notIf false (isNil .p (ptr b o)) = some (.bool false) := rfl
@[simp] theorem isNil_ptr' (b o : Nat) : notIf true (isNil .p (ptr b o)) = some (.bool true) := rfl
@[simp] theorem isNil_pnil : notIf false (isNil .p (.pointer none)) = some (.bool true) := rfl
@[simp] theorem isNil_pnil' : notIf true (isNil .p (.pointer none)) = some (.bool false) := rfl
end Go.AM
